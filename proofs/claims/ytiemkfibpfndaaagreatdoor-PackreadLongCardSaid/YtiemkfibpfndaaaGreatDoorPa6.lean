/- packread's family of lists: the walk. -/
import Derived.Deep.CutRange
import Derived.Test.YtiemkfibpfndaaaGreatDoorPa5
namespace Go.Proofs.YtiemkfibpfndaaaGreatDoor
open Go.RowKit

set_option maxRecDepth 100000 in
/-- too deep: a container -/
theorem list_deep (b : Nat) (s : ByteArray) (p fr n B : Nat) (sa : Nat → Addr) (w : World) (g : GL B sa w) (hr : Rd w b s p fr 128) : Calls Tryz.prog 64 #[.pointer (some ⟨b, 0, none⟩), .int .u64 (n : Int)] w (FamPost sa b s 128 w (.bad 5 fr)) := by
  obtain ⟨w0, b4, HW0, HB4, HK0, HT0, HL0⟩ := start w
  have hE := enter_ok b s p fr 128 B sa w0 (g.keep HK0.out (fun _ h => h.elim)) (hr.keep HK0.out (fun h => h)) (Nat.le_refl _)
  simp only [if_true] at hE
  go_enter Tryz.func64, Tryz.ntmps64
  go_upto_region 1 with (fail)
  rw [HW0.out, HB4.out]
  go_wp2_with (go_at_call 91; go_must (refine hE.mono ?_); rintro e w9 ⟨ev, rfl, hk9, he⟩; have HK9 := Lib.hid hk9; clear hk9; obtain ⟨bb, rfl, he1⟩ := he; obtain ⟨v0, v1, v2, v3, v4, v5, v6, v7, ⟨c0, c1, c2, c3, c4, c5, c6, c7⟩, f0, f1, f2, f3, f4, f5, f6, f7⟩ := eight (HT0.out.keep' HK9.out))
  obtain ⟨w10, e10, r10, k10⟩ := put8 (HT0.out.keep' HK9.out) Raw.zero (.int .i8 0) (.int .u64 0) (.bool false) (.slice none 0 0) (.int .u64 0) (.int .i8 0) (.string ⟨#[]⟩) (.slice none 0 0) rfl
  rw [e10.out]
  exact ret_vt rfl rfl rfl rfl r10 (fam_bad (Lib.hid rfl) HK0 (Keep.refl _ _) (HK9.out.mono (fun _ _ h => h.elim)) k10 HL0 ⟨bb, rfl, he1⟩)
set_option maxRecDepth 100000 in
set_option maxHeartbeats 1000000 in
theorem list_ok (B : Nat) (sa : Nat → Addr) (s : ByteArray) (it : Nat → R V) (d : Nat) (hs : s.size ≤ 1000000000) (HIT : ItemC B sa s it d) (hgo : ∀ p v q, p ≤ s.size → it p = .ok v q → p < q ∧ q ≤ s.size)
    (b p fr op n : Nat) (w : World) (g : GL B sa w) (hB : B ≤ b) (hr : Rd w b s p fr op) (hop : op + (d + 1) = 128) (hp : p ≤ s.size) (hn : n < 18446744073709551616) :
    Calls Tryz.prog 64 #[.pointer (some ⟨b, 0, none⟩), .int .u64 (n : Int)] w (FamPost sa b s op w ((roundsN it n p []).bind fun l q => .ok (V.lis l) q)) := by
  obtain ⟨w0, b4, HW0, HB4, HK0, HT0, HL0⟩ := start w
  have hE := enter_ok b s p fr op B sa w0 (g.keep HK0.out (fun _ h => h.elim)) (hr.keep HK0.out (fun h => h)) (by omega)
  have hne : ¬ op = 128 := by omega
  simp only [if_neg hne] at hE
  have HE := Lib.hid hE
  obtain ⟨X, HX⟩ : ∃ X, Hid ((roundsN it n p []).bind (fun l q => R.ok (V.lis l) q) = X) := ⟨_, Lib.hid rfl⟩
  rw [HX.out]
  have HBB : Hid (b < w.heap.size) := Lib.hid (World.block_lt_of_cell? w _ hr.c0)
  have HG0 := Lib.hid (g.keep HK0.out (fun _ h => h.elim))
  have HITH := Lib.hid HIT
  have HGO := Lib.hid hgo
  have HP := Lib.hid hp
  have HS := Lib.hid hs
  have HOP := Lib.hid hop
  have HBL := Lib.hid hB
  clear hE hr g HIT hgo hp hs hop hB
  go_enter Tryz.func64, Tryz.ntmps64
  go_upto_region 1 with (fail)
  rw [HW0.out, HB4.out]
  go_upto_block 0 with (go_at_call 91; go_must (refine HE.out.mono ?_); rintro e w1 ⟨rfl, hk1, hr1⟩; have HK1 := Lib.hid hk1; have HR1 := Lib.hid hr1; clear hk1 hr1)
  obtain ⟨w2, HW2⟩ : ∃ w2, Hid (w1.alloc (.cells #[.int .i8 7, .int .u64 0, .bool false, .slice none 0 0, .int .u64 0, .int .i8 0, .string ⟨#[]⟩, .slice none 0 0] 55) = w2) := ⟨_, Lib.hid rfl⟩
  obtain ⟨b7, HB7⟩ : ∃ b7, Hid (w1.heap.size = b7) := ⟨_, Lib.hid rfl⟩
  have HK2 : Hid (Keep nob w1 w2) := by unfold Hid; rw [← HW2.out]; exact (Keep.refl _ _).alloc _
  have HM : Hid (b7 < w2.heap.size) := by unfold Hid; rw [← HW2.out, ← HB7.out]; simp
  have HGR : Hid (Grow w2 b7 w2.heap.size 7 none 0 [] []) := by
    refine Lib.hid ⟨⟨Sl.nil_ ER w2 none (by decide), fun h => absurd h (by decide)⟩, fun _ ha => (by cases ha), fun _ ha => (by cases ha), trivial, ?_, ?_⟩
    · rw [← HW2.out, ← HB7.out]
      exact range_new w1 ⟨7, 0, false, none, 0, 0, 0, 0, ⟨#[]⟩, none, 0, 0⟩ 55
    · rw [← HW2.out, ← HB7.out]
      exact there_alloc_new w1 _ _ 8 (Nat.le_refl _)
  have HR2 : Hid (Rd w2 b s p fr (op + 1)) := Lib.hid (HR1.out.keep HK2.out (fun h => h))
  rw [HW2.out, HB7.out]
  go_wp2_with (fail)
  obtain ⟨m, HMM⟩ : ∃ m, Hid (w2.heap.size = m) := ⟨_, Lib.hid rfl⟩
  rw [HMM.out] at HGR HM
  have HBM : Hid (b < b7 ∧ b4 < b7) := by
    unfold Hid
    have h1 := HBB.out
    have h2 := HL0.out
    have h3 := HB7.out
    have h4 := HK1.out.size
    omega
  go_loopw [1, 5, 8, 9] (fun u1 u5 u8 u9 wr => ∃ (j pc fr' c : Nat) (A : Option Addr) (rs : List Raw) (acc : List V), j < 18446744073709551616 ∧ u1 = .int .u64 (j : Int) ∧ u5 = .nilIface ∧ Hid (roundsN it j pc acc = roundsN it n p []) ∧ Hid (pc ≤ s.size ∧ acc.length ≤ pc) ∧ Hid (Grow wr b7 m 7 A c rs acc) ∧ Hid (Rd wr b s pc fr' (op + 1)) ∧ Hid (Keep (fun k => k = b ∨ k = b7) w2 wr)) (fun u1 _ _ _ _ => (intOf u1).toNat)
  case atStart => exact ⟨n, p, fr, 0, none, [], [], hn, rfl, rfl, Lib.hid rfl, Lib.hid ⟨HP.out, Nat.zero_le _⟩, HGR, HR2, Lib.hid (Keep.refl _ _)⟩
  case round =>
    obtain ⟨j, pc, fr', c, A, rs, acc, hj, rfl, rfl, HF, HPC, HGW, HRW, HKW⟩ := hrel
    obtain ⟨a0, a1, a2, a3, a4, a5, a6, a7⟩ := cells_val HGW.out.ce
    have HWS : Hid (m ≤ wr.heap.size) := by unfold Hid; rw [← HMM.out]; exact HKW.out.size
    have HTW : Hid (wr.there b4 0 8) := by
      have h1 := HBM.out
      have h2 := HL0.out
      have h3 := HBB.out
      exact Lib.hid (HKW.out.there ((HK1.out.there HT0.out (fun h => by omega)).keep' HK2.out) (fun h => by omega))
    rcases Nat.eq_zero_or_pos j with h0 | h0
    · subst h0
      have hd : decide ((0 : Int) > 0) = false := by decide
      have h3 := HRW.out.c3
      have hf3 := HRW.out.fz 3 (by decide)
      have HX2 : Hid (X = .ok (V.lis acc) pc) := by
        unfold Hid
        rw [← HX.out, ← HF.out]
        rfl
      have i2 : IntKind.i64.wrap (((op + 1 : Nat) : Int) - 1) = (op : Int) := by have := HOP.out; rw [IntWalk.i64_left, IntWalk.wrap64_in _ ⟨by omega, by omega⟩]; omega
      obtain ⟨op1, HO1⟩ : ∃ op1, Hid (op + 1 = op1) := ⟨_, Lib.hid rfl⟩
      rw [HO1.out] at h3 i2 HRW
      go_upto_region 12 with (fail)
      obtain ⟨w5, HW5⟩ : ∃ w5, Hid (wr.setCell ⟨b, 3, none⟩ (.int .i64 (op : Int)) = w5) := ⟨_, Lib.hid rfl⟩
      have HK5 : Hid (Keep (· = b) wr w5) := by unfold Hid; rw [← HW5.out]; exact (Keep.refl (· = b) wr).setCell (fun _ => rfl) _
      have HR5 : Hid (Rd w5 b s pc fr' op) := by
        unfold Hid
        rw [← HW5.out]
        exact HRW.out.set3 op
      have hM := HM.out
      have hBM := HBM.out
      have hL0 := HL0.out
      have hBB := HBB.out
      have HG5 := Lib.hid (HGW.out.keep HK5.out (fun j e => by omega) (fun e => by omega))
      have HT5 := Lib.hid (HK5.out.there HTW.out (fun h => by omega))
      rw [HW5.out]
      obtain ⟨a0, a1, a2, a3, a4, a5, a6, a7⟩ := cells_val HG5.out.ce
      obtain ⟨v0, v1, v2, v3, v4, v5, v6, v7, ⟨c0, c1, c2, c3, c4, c5, c6, c7⟩, f0, f1, f2, f3, f4, f5, f6, f7⟩ := eight HT5.out
      obtain ⟨L, HLL⟩ : ∃ L, Hid (rs.length = L) := ⟨_, Lib.hid rfl⟩
      rw [HLL.out] at a7
      go_wp2
      obtain ⟨w10, e10, r10, k10⟩ := put8 HT5.out ⟨7, 0, false, none, 0, 0, 0, 0, ⟨#[]⟩, A, L, c⟩ (.int .i8 7) (.int .u64 0) (.bool false) (.slice none 0 0) (.int .u64 0) (.int .i8 0) (.string ⟨#[]⟩) (.slice A L c) rfl
      rw [e10.out]
      have hz1 := HK1.out.size
      have hz2 := HK2.out.size
      have hb7 := HB7.out
      have hmm := HMM.out
      refine ret_vt rfl rfl rfl rfl r10 ?_
      rw [HX2.out]
      have HG10 := HG5.out.keep k10 (fun j e => by omega) (fun e => by omega)
      refine ⟨?_, ⟨fr', HR5.out.keep k10 (fun h => by omega)⟩, _, rfl, ?_⟩
      · refine (((HK0.out.mono (fun _ _ h => h.elim)).then_ HK1.out).then_ (HK2.out.mono (fun _ _ h => h.elim))).trans HKW.out (fun k h1 h2 => ?_) |>.then_ HK5.out |>.trans k10 (fun k h1 h2 => ?_)
        · omega
        · omega
      · refine ⟨rfl, rfl, rfl, rfl, rfl, rfl, ⟨rfl, Sl.nil_ EU _ none (Nat.zero_le _), fun h => absurd rfl h⟩, rs, HLL.out.symm, HG10.ow.sl, fun hne => ?_, TrL.mono (fun k _ hk => by have := hk.1; omega) _ _ HG10.tr⟩
        obtain ⟨b1, o1, hA, -⟩ := HG10.ow.sl.at_ hne
        exact ⟨_, hA, by have := HG10.at_ _ hA; simp only at this ⊢; omega⟩
    · obtain ⟨i, rfl⟩ : ∃ i, j = i + 1 := ⟨j - 1, by omega⟩
      have hd : decide (((i + 1 : Nat) : Int) > 0) = true := by rw [decide_eq_true_iff]; omega
      have i1 : IntKind.u64.wrap (((i + 1 : Nat) : Int) - 1) = (i : Int) := by rw [IntKind.wrap_u64]; omega
      have hI := HITH.out b pc fr' (op + 1) wr (((HG0.out.keep HK1.out (fun k h => by rw [h]; exact HBL.out)).keep HK2.out (fun _ h => h.elim)).keep HKW.out (fun k h => by have := HBM.out; have := HBL.out; omega)) HBL.out HRW.out (by have := HOP.out; omega) HPC.out.1
      cases hit : it pc with
      | bad cc q =>
        rw [hit] at hI
        change Calls Tryz.prog _ _ _ (fun e w' => ∃ ev, e = .returned (.tuple #[ER.val Raw.zero, ev]) ∧ Keep (· = b) wr w' ∧ FErr sa w' (fun k => wr.heap.size ≤ k) ev cc q) at hI
        have HX2 : Hid (X = .bad cc q) := by
          unfold Hid
          rw [← HX.out, ← HF.out, roundsN, hit]
          rfl
        simp only [ER, Raw.zero] at hI
        have HI := Lib.hid hI
        clear hI hit
        go_wp2_with (go_at_call 26; go_must (refine HI.out.mono ?_); rintro e w3 ⟨ev, rfl, hk3, he⟩; have HK3 := Lib.hid hk3; clear hk3; obtain ⟨bb, rfl, he1⟩ := he; have HT3 : Hid (w3.there b4 0 8) := Lib.hid (HK3.out.there HTW.out (fun h => by have := HL0.out; have := HBB.out; omega)); obtain ⟨v0, v1, v2, v3, v4, v5, v6, v7, ⟨c0, c1, c2, c3, c4, c5, c6, c7⟩, f0, f1, f2, f3, f4, f5, f6, f7⟩ := eight (HT3.out.keep' ((Keep.refl nob w3).alloc (.cells #[.int .i8 0, .int .u64 0, .bool false, .slice none 0 0, .int .u64 0, .int .i8 0, .string ⟨#[]⟩, .slice none 0 0] 55))))
        obtain ⟨w4, HW4⟩ : ∃ w4, Hid (w3.alloc (.cells #[.int .i8 0, .int .u64 0, .bool false, .slice none 0 0, .int .u64 0, .int .i8 0, .string ⟨#[]⟩, .slice none 0 0] 55) = w4) := ⟨_, Lib.hid rfl⟩
        have hk4 : Keep nob w3 w4 := by rw [← HW4.out]; exact (Keep.refl _ _).alloc _
        rw [HW4.out]
        obtain ⟨w10, e10, r10, k10⟩ := put8 (HT3.out.keep' hk4) Raw.zero (.int .i8 0) (.int .u64 0) (.bool false) (.slice none 0 0) (.int .u64 0) (.int .i8 0) (.string ⟨#[]⟩) (.slice none 0 0) rfl
        rw [e10.out]
        have HKQ : Hid (Keep (fun k => k = b ∨ b7 ≤ k) w0 wr) := Lib.hid (((HK1.out.then_ (HK2.out.mono (fun _ _ h => h.elim))).mono (fun _ _ h => .inl h)).trans HKW.out (fun k h1 h2 => by have := HBM.out; omega))
        have h1 := HBM.out
        have h2 := HL0.out
        have hb7 : w0.heap.size ≤ b7 := by have := HK1.out.size; have := HB7.out; omega
        refine ret_vt rfl rfl rfl rfl r10 (fam_bad HX2 HK0 (w8 := wr) (HKQ.out.trans (Keep.refl nob wr) (fun _ _ h => h.elim) |>.mono (fun k h3 h4 => by omega)) (HK3.out.then_ (hk4.mono (fun _ _ h => h.elim))) k10 HL0 ?_)
        exact (FErr.keep (S := nob) ⟨bb, rfl, he1⟩ hk4 (fun _ _ h => h))
      | ok v q =>
        rw [hit] at hI
        change Calls Tryz.prog _ _ _ (fun e w' => Keep (· = b) wr w' ∧ (∃ fr2, Rd w' b s q fr2 (op + 1)) ∧ ∃ r, e = .returned (.tuple #[ER.val r, .nilIface]) ∧ Tr w' (fun k => wr.heap.size ≤ k) r v) at hI
        have HF2 : Hid (roundsN it i q (acc ++ [v]) = roundsN it n p []) := by
          unfold Hid
          rw [← HF.out, roundsN, hit]
          rfl
        have HQS := Lib.hid (HGO.out pc v q HPC.out.1 hit)
        have HI := Lib.hid hI
        clear hI hit a0 a1 a2 a3 a4 a5 a6 a7
        go_upto_region 10 with (go_at_call 26; go_must (refine HI.out.mono ?_); rintro e w3 ⟨hk3, ⟨fr2, hr3⟩, r, rfl, ht3⟩; have HK3 := Lib.hid hk3; have HR3 := Lib.hid hr3; have HT3 := Lib.hid ht3; clear hk3 hr3 ht3; unfold ER)
        obtain ⟨w4, HW4⟩ : ∃ w4, Hid (w3.alloc (.cells (ER.cells r).toArray 55) = w4) := ⟨_, Lib.hid rfl⟩
        obtain ⟨b8, HB8⟩ : ∃ b8, Hid (w3.heap.size = b8) := ⟨_, Lib.hid rfl⟩
        have HK4 : Hid (Keep nob w3 w4) := by unfold Hid; rw [← HW4.out]; exact (Keep.refl _ _).alloc _
        have hrn := range_new w3 r 55
        rw [HW4.out, HB8.out] at hrn
        rw [show w3.alloc (.cells #[.int .i8 (r.kind : Int), .int .u64 (r.n : Int), .bool r.neg, .slice r.mA r.mL r.mC, .int .u64 (r.bits : Int), .int .i8 r.ext, .string r.text, .slice r.kA r.kL r.kC] 55) = w4 from HW4.out, HB8.out]
        obtain ⟨e0, e1, e2, e3, e4, e5, e6, e7⟩ := cells_val hrn
        have HG4 : Hid (Grow w4 b7 m 7 A c rs acc) := Lib.hid ((HGW.out.keep HK3.out (fun j e => by have := HBM.out; have := HM.out; omega) (fun e => by have := HBM.out; omega)).keep HK4.out (fun _ h => h.elim) (fun h => h))
        obtain ⟨-, -, -, -, -, -, -, a7⟩ := cells_val HG4.out.ce
        have HK5 : Hid (Keep nob w4 (w4.alloc (.cells (ER.cells r).toArray 55))) := Lib.hid ((Keep.refl _ _).alloc _)
        have HG5 := Lib.hid (HG4.out.keep HK5.out (fun _ h => h.elim) (fun h => h))
        have HSL5 := Lib.hid (one_sl w4 r 55)
        have hrl : rs.length ≤ 1000000000 := by have h1 := HGW.out.tr.len; have h2 := HPC.out; have h3 := HS.out; omega
        obtain ⟨L, HLL⟩ : ∃ L, Hid (rs.length = L) := ⟨_, Lib.hid rfl⟩
        rw [HLL.out] at a7 hrl
        go_wp2_with (at_builtin; refine wpList_append_ow ER rfl _ _ 53 rfl 55 _ 104 Tryz.underlying53 infoValue rfl A L c rfl rs HLL.out HG5.out.ow (some ⟨w4.heap.size, 0, none⟩) 1 1 rfl [r] rfl HSL5.out (by omega) (by omega) ?_; intro A' c' w6 hap; have HAP := Lib.hid hap; clear hap; have hth6 := HAP.out.keep.there HG5.out.th (fun ⟨a, ha, hb⟩ => by have h1 := HG5.out.at_ a ha; have h2 := HM.out; omega); obtain ⟨-, -, -, -, -, -, -, v7, ⟨-, -, -, -, -, -, -, d7⟩, -, -, -, -, -, -, -, f7⟩ := eight hth6; clear hth6)
        have hM := HM.out
        have hBM := HBM.out
        have hWS := HWS.out
        have hz3 := HK3.out.size
        have hz4 := HK4.out.size
        have hz5 := HK5.out.size
        have ht5 := Tr.keep (HK4.out.then_ HK5.out) (nobD _) _ _ HT3.out
        obtain ⟨g7, k7⟩ := HG5.out.push HAP.out hM (by omega) ht5 hWS (fun a ha => HGW.out.lt a ha)
        have hAm := fun a ha => HG5.out.at_ a ha
        rw [HLL.out] at g7 k7
        refine ⟨⟨i, q, fr2, c', A', rs ++ [r], acc ++ [v], by omega, rfl, rfl, HF2, Lib.hid ⟨HQS.out.2, ?_⟩, Lib.hid g7, Lib.hid (((HR3.out.keep HK4.out (fun h => h)).keep HK5.out (fun h => h)).keep k7 ?_), Lib.hid ?_⟩, by simp [intOf]⟩
        · have := HPC.out.2; have := HQS.out.1; rw [List.length_append, List.length_singleton]; omega
        · rintro (⟨a, ha, hb⟩ | h)
          · have := hAm a ha; omega
          · omega
        · refine (((HKW.out.trans HK3.out (fun k h1 h2 => .inl h2)).then_ (HK4.out.mono (fun _ _ h => h.elim))).then_ (HK5.out.mono (fun _ _ h => h.elim))).trans k7 ?_
          rintro k h1 (⟨a, ha, hb⟩ | h)
          · have := hAm a ha; have := HMM.out; omega
          · exact .inr h
end Go.Proofs.YtiemkfibpfndaaaGreatDoor

/- packread's family of maps: what grows; too deep. -/
namespace Go.Proofs.YtiemkfibpfndaaaGreatDoor
open Go.RowKit

/-- a key and a value put into their place -/
theorem Grow.ins {w8 w9 w12 : World} {b7 m kind : Nat} {A A' : Option Addr} {c c' n mm : Nat} {rs : List Raw} {acc : List V} {rk rx : Raw} {vk vx : V} (h : Grow w8 b7 m kind A c rs acc) (hap : Appended ER w8 A (rs ++ [rk, rx]) A' c' w9) (h7 : b7 < m) (hm : m ≤ w8.heap.size)
    (htk : Tr w8 (fun j => n ≤ j) rk vk) (htx : Tr w8 (fun j => n ≤ j) rx vx) (hn : m ≤ n) (hA : ∀ a, A = some a → a.block < n)
    (k12 : Keep (fun k => AtB A' k ∨ k = b7) w9 w12) (ho : Ow ER w12 A' c' (rs.take (2 * mm) ++ rk :: rx :: rs.drop (2 * mm)))
    (hce : w12.rangeAt b7 0 (ER.cells ⟨kind, 0, false, none, 0, 0, 0, 0, ⟨#[]⟩, A', rs.length + 2, c'⟩)) (hth : w12.there b7 0 8) :
    Grow w12 b7 m kind A' c' (rs.take (2 * mm) ++ rk :: rx :: rs.drop (2 * mm)) (insN acc mm vk vx) ∧ Keep (fun k => AtB A k ∨ k = b7 ∨ w8.heap.size ≤ k) w8 w12 := by
  have hA' : ∀ a, A' = some a → m ≤ a.block := fun a ha => by
    rcases hap.lies a ha with ⟨a0, h0, h1⟩ | ⟨h1, _⟩
    · have := h.at_ a0 h0; omega
    · omega
  have hdel : ∀ j, j < w8.heap.size → Del m A j → ¬ AtB A j ∧ Del m A' j := fun j hj hd => ⟨hd.2, hd.1, fun ⟨a, ha, hb⟩ => by
    rcases hap.lies a ha with ⟨a0, h0, h1⟩ | ⟨h1, _⟩
    · exact hd.2 ⟨a0, h0, by omega⟩
    · omega⟩
  have t1 : TrL w8 (fun j => ¬ AtB A j ∧ Del m A' j) rs acc := TrL.mono hdel _ _ h.tr
  have tk : Tr w8 (fun j => ¬ AtB A j ∧ Del m A' j) rk vk := Tr.mono (fun j hj hd => hdel j hj ⟨by omega, fun ⟨a, ha, hb⟩ => by have := hA a ha; omega⟩) _ _ htk
  have tx : Tr w8 (fun j => ¬ AtB A j ∧ Del m A' j) rx vx := Tr.mono (fun j hj hd => hdel j hj ⟨by omega, fun ⟨a, ha, hb⟩ => by have := hA a ha; omega⟩) _ _ htx
  have t2 : TrL w8 (fun j => ¬ AtB A j ∧ Del m A' j) (rs.take (2 * mm) ++ rk :: rx :: rs.drop (2 * mm)) (insN acc mm vk vx) := TrL.app (t1.take _) ⟨tk, tx, t1.drop _⟩
  have t3 := TrL.mono (D' := fun j => Del m A' j) (fun _ _ hd => hd.2) _ _ (TrL.keep hap.keep (fun j hd => hd.1) _ _ t2)
  have t4 := TrL.keep k12 (fun j hd e => by
    rcases e with e | e
    · exact hd.2 e
    · have := hd.1; omega) _ _ t3
  have hlen : (rs.take (2 * mm) ++ rk :: rx :: rs.drop (2 * mm)).length = rs.length + 2 := by
    simp only [List.length_append, List.length_take, List.length_cons, List.length_drop]
    omega
  refine ⟨⟨ho, hA', fun a ha => ?_, t4, ?_, ?_⟩, ?_⟩
  · rcases hap.lies a ha with ⟨a0, h0, h1⟩ | ⟨h1, h2⟩
    · have := h.lt a0 h0; have := hap.keep.size; have := k12.size; omega
    · have := k12.size; omega
  · rw [hlen]; exact hce
  · exact hth
  · refine (hap.keep.mono (fun _ _ h => .inl h)).trans k12 (fun j hj e => ?_)
    rcases e with ⟨a, ha, hb⟩ | e
    · rcases hap.lies a ha with ⟨a0, h0, h1⟩ | ⟨h1, _⟩
      · exact .inl ⟨a0, h0, by omega⟩
      · exact .inr (.inr (by omega))
    · exact .inr (.inl e)
set_option maxRecDepth 100000 in
/-- too deep: a container -/
theorem pairs_deep (b : Nat) (s : ByteArray) (p fr n B : Nat) (sa : Nat → Addr) (w : World) (g : GL B sa w) (hr : Rd w b s p fr 128) : Calls Tryz.prog 63 #[.pointer (some ⟨b, 0, none⟩), .int .u64 (n : Int)] w (FamPost sa b s 128 w (.bad 5 fr)) := by
  obtain ⟨w0, b4, HW0, HB4, HK0, HT0, HL0⟩ := start w
  have hE := enter_ok b s p fr 128 B sa w0 (g.keep HK0.out (fun _ h => h.elim)) (hr.keep HK0.out (fun h => h)) (Nat.le_refl _)
  simp only [if_true] at hE
  go_enter Tryz.func63, Tryz.ntmps63
  go_upto_region 1 with (fail)
  rw [HW0.out, HB4.out]
  go_wp2_with (go_at_call 91; go_must (refine hE.mono ?_); rintro e w9 ⟨ev, rfl, hk9, he⟩; have HK9 := Lib.hid hk9; clear hk9; obtain ⟨bb, rfl, he1⟩ := he; obtain ⟨v0, v1, v2, v3, v4, v5, v6, v7, ⟨c0, c1, c2, c3, c4, c5, c6, c7⟩, f0, f1, f2, f3, f4, f5, f6, f7⟩ := eight (HT0.out.keep' HK9.out))
  obtain ⟨w10, e10, r10, k10⟩ := put8 (HT0.out.keep' HK9.out) Raw.zero (.int .i8 0) (.int .u64 0) (.bool false) (.slice none 0 0) (.int .u64 0) (.int .i8 0) (.string ⟨#[]⟩) (.slice none 0 0) rfl
  rw [e10.out]
  exact ret_vt rfl rfl rfl rfl r10 (fam_bad (Lib.hid rfl) HK0 (Keep.refl _ _) (HK9.out.mono (fun _ _ h => h.elim)) k10 HL0 ⟨bb, rfl, he1⟩)
end Go.Proofs.YtiemkfibpfndaaaGreatDoor

/- A list that grows in its middle: what moves, what is put in. -/
namespace Go.Proofs.YtiemkfibpfndaaaGreatDoor
open Go.RowKit

theorem sizeValue : (Tryz.prog.info? 55).map (·.size) = some ER.sz := by kernel_rfl
/-- a slice's two new elements -/
theorem two_sl (w : World) (r r2 : Raw) (T : TypeId) : Sl ER (w.alloc (.cells (ER.cells r ++ ER.cells r2).toArray T)) (some ⟨w.heap.size, 0, none⟩) 2 [r, r2] :=
  ⟨Nat.le_refl _, by decide, fun _ => ⟨_, _, rfl, range_alloc_new w _ T _ (fun j v hj => by simpa [El.flat_cons, El.flat_nil] using hj)⟩⟩
theorem sixteen {W : World} {b p : Nat} (h : W.there b p 16) : ∃ v0 v1 v2 v3 v4 v5 v6 v7 v8 v9 v10 v11 v12 v13 v14 v15, (W.cell? ⟨b, p, none⟩ = some v0 ∧ W.cell? ⟨b, p + 1, none⟩ = some v1 ∧ W.cell? ⟨b, p + 2, none⟩ = some v2 ∧ W.cell? ⟨b, p + 3, none⟩ = some v3 ∧ W.cell? ⟨b, p + 4, none⟩ = some v4 ∧ W.cell? ⟨b, p + 5, none⟩ = some v5 ∧ W.cell? ⟨b, p + 6, none⟩ = some v6 ∧ W.cell? ⟨b, p + 7, none⟩ = some v7 ∧ W.cell? ⟨b, p + 8, none⟩ = some v8 ∧ W.cell? ⟨b, p + 9, none⟩ = some v9 ∧ W.cell? ⟨b, p + 10, none⟩ = some v10 ∧ W.cell? ⟨b, p + 11, none⟩ = some v11 ∧ W.cell? ⟨b, p + 12, none⟩ = some v12 ∧ W.cell? ⟨b, p + 13, none⟩ = some v13 ∧ W.cell? ⟨b, p + 14, none⟩ = some v14 ∧ W.cell? ⟨b, p + 15, none⟩ = some v15) ∧ W.frozen? ⟨b, p, none⟩ = false ∧ W.frozen? ⟨b, p + 1, none⟩ = false ∧ W.frozen? ⟨b, p + 2, none⟩ = false ∧ W.frozen? ⟨b, p + 3, none⟩ = false ∧ W.frozen? ⟨b, p + 4, none⟩ = false ∧ W.frozen? ⟨b, p + 5, none⟩ = false ∧ W.frozen? ⟨b, p + 6, none⟩ = false ∧ W.frozen? ⟨b, p + 7, none⟩ = false ∧ W.frozen? ⟨b, p + 8, none⟩ = false ∧ W.frozen? ⟨b, p + 9, none⟩ = false ∧ W.frozen? ⟨b, p + 10, none⟩ = false ∧ W.frozen? ⟨b, p + 11, none⟩ = false ∧ W.frozen? ⟨b, p + 12, none⟩ = false ∧ W.frozen? ⟨b, p + 13, none⟩ = false ∧ W.frozen? ⟨b, p + 14, none⟩ = false ∧ W.frozen? ⟨b, p + 15, none⟩ = false := by
  have c : ∀ j, j < 16 → ∃ v, W.cell? ⟨b, p + j, none⟩ = some v := fun j hj => by
    have := (h j hj).1
    exact Option.isSome_iff_exists.1 this
  obtain ⟨v0, h0⟩ := c 0 (by decide)
  obtain ⟨v1, h1⟩ := c 1 (by decide)
  obtain ⟨v2, h2⟩ := c 2 (by decide)
  obtain ⟨v3, h3⟩ := c 3 (by decide)
  obtain ⟨v4, h4⟩ := c 4 (by decide)
  obtain ⟨v5, h5⟩ := c 5 (by decide)
  obtain ⟨v6, h6⟩ := c 6 (by decide)
  obtain ⟨v7, h7⟩ := c 7 (by decide)
  obtain ⟨v8, h8⟩ := c 8 (by decide)
  obtain ⟨v9, h9⟩ := c 9 (by decide)
  obtain ⟨v10, h10⟩ := c 10 (by decide)
  obtain ⟨v11, h11⟩ := c 11 (by decide)
  obtain ⟨v12, h12⟩ := c 12 (by decide)
  obtain ⟨v13, h13⟩ := c 13 (by decide)
  obtain ⟨v14, h14⟩ := c 14 (by decide)
  obtain ⟨v15, h15⟩ := c 15 (by decide)
  exact ⟨v0, v1, v2, v3, v4, v5, v6, v7, v8, v9, v10, v11, v12, v13, v14, v15, ⟨h0, h1, h2, h3, h4, h5, h6, h7, h8, h9, h10, h11, h12, h13, h14, h15⟩, (h 0 (by decide)).2, (h 1 (by decide)).2, (h 2 (by decide)).2, (h 3 (by decide)).2, (h 4 (by decide)).2, (h 5 (by decide)).2, (h 6 (by decide)).2, (h 7 (by decide)).2, (h 8 (by decide)).2, (h 9 (by decide)).2, (h 10 (by decide)).2, (h 11 (by decide)).2, (h 12 (by decide)).2, (h 13 (by decide)).2, (h 14 (by decide)).2, (h 15 (by decide)).2⟩
/-- the elements from a on moved two places up -/
theorem shifted {w w' : World} {bA oA c a L : Nat} {rs : List Raw} {k x : Raw} (h : Ow ER w (some ⟨bA, oA, none⟩) c (rs ++ [k, x])) (hL : rs.length = L) (ha : a ≤ L) (h0 : L - a = 0 → w' = w)
    (h1 : ∀ b o, 0 < L - a → cutA (some ⟨bA, oA, none⟩) c (a + 2) 8 = some ⟨b, o, none⟩ → w' = w.setCells b o (ER.flat (((rs ++ [k, x]).drop a).take (L - a)))) :
    Ow ER w' (some ⟨bA, oA, none⟩) c ((rs ++ [k, x]).take (a + 2) ++ rs.drop a) ∧ Keep (· = bA) w w' := by
  have hle : L + 2 ≤ c := by have := h.sl.le; rw [List.length_append, hL] at this; exact this
  rcases Nat.eq_zero_or_pos (L - a) with hz | hz
  · have ea : a = L := by omega
    have := h0 hz
    subst this
    rw [List.take_of_length_le (by simp; omega), List.drop_eq_nil_of_le (by omega), List.append_nil]
    exact ⟨h, Keep.refl _ _⟩
  · have e1 : cutA (some ⟨bA, oA, none⟩) c (a + 2) 8 = some ⟨bA, oA + (a + 2) * 8, none⟩ := by
      unfold cutA
      rw [if_neg (by omega), Option.map_some, Addr.add_mid]
    have e2 : ((rs ++ [k, x]).drop a).take (L - a) = rs.drop a := by
      rw [List.drop_append_of_le_length (by omega), List.take_append_of_le_length (by simp; omega), List.take_of_length_le (by simp; omega)]
    have e3 := h1 _ _ hz e1
    rw [e2] at e3
    have hp := Ow.puts (i := a + 2) h (rs.drop a) (by simp; omega) (by simp)
    rw [List.drop_eq_nil_of_le (show (rs ++ [k, x]).length ≤ a + 2 + (rs.drop a).length by simp; omega), List.append_nil] at hp
    rw [e3]
    exact ⟨hp, (Keep.refl _ w).setCells _ _ (fun _ => rfl)⟩
/-- two elements put in -/
theorem placed {w : World} {bA oA c a L : Nat} {rs : List Raw} {k x : Raw} (h : Ow ER w (some ⟨bA, oA, none⟩) c ((rs ++ [k, x]).take (a + 2) ++ rs.drop a)) (hL : rs.length = L) (ha : a ≤ L) :
    Ow ER (w.setCells bA (oA + a * 8) (ER.flat [k, x])) (some ⟨bA, oA, none⟩) c (rs.take a ++ k :: x :: rs.drop a) := by
  have hl : ((rs ++ [k, x]).take (a + 2)).length = a + 2 := by simp; omega
  have hp := Ow.puts (i := a) h [k, x] (by simp; omega) (fun e => by have := congrArg List.length e; rw [List.length_append, hl] at this; simp at this)
  rw [List.take_append_of_le_length (by omega), List.take_take, Nat.min_eq_left (by omega), List.take_append_of_le_length (by omega), List.drop_append_of_le_length (by rw [hl]; simp), List.drop_eq_nil_of_le (show ((rs ++ [k, x]).take (a + 2)).length ≤ a + [k, x].length by rw [hl]; simp), List.nil_append] at hp
  exact hp
theorem two_there {w : World} {bA oA c a : Nat} {xs : List Raw} (h : Ow ER w (some ⟨bA, oA, none⟩) c xs) (ha : a + 2 ≤ c) : w.there bA (oA + a * 8) 16 := by
  obtain ⟨b', o', e', ht⟩ := h.room (by omega)
  simp only [Option.some.injEq, Addr.mk.injEq, and_true] at e'
  obtain ⟨rfl, rfl⟩ := e'
  exact there_sub ht (by omega) (by simp only [ER]; omega)
end Go.Proofs.YtiemkfibpfndaaaGreatDoor

/- packread's family of maps: the walk. -/
namespace Go.Proofs.YtiemkfibpfndaaaGreatDoor
open Go.RowKit

theorem SmL.app : ∀ {l l2 : List V} (_ : SmL l) (_ : SmL l2), SmL (l ++ l2)
  | [], _, _, h => h
  | _ :: _, _, h1, h => ⟨h1.1, SmL.app h1.2 h⟩
theorem SmL.take : ∀ {l : List V} (_ : SmL l) (n : Nat), SmL (l.take n)
  | [], _, n => by rw [List.take_nil]; trivial
  | _ :: _, _, 0 => trivial
  | _ :: _, h, n + 1 => ⟨h.1, SmL.take h.2 n⟩
theorem SmL.drop : ∀ {l : List V} (_ : SmL l) (n : Nat), SmL (l.drop n)
  | [], _, n => by rw [List.drop_nil]; trivial
  | _ :: _, h, 0 => h
  | _ :: _, h, n + 1 => SmL.drop h.2 n
theorem SmL.ins {l : List V} (h : SmL l) (m : Nat) {k x : V} (hk : Sm k) (hx : Sm x) : SmL (insN l m k x) := SmL.app (h.take _) ⟨hk, hx, h.drop _⟩
theorem insN_len (l : List V) (m : Nat) (k x : V) : (insN l m k x).length = l.length + 2 := by
  unfold insN
  simp only [List.length_append, List.length_take, List.length_cons, List.length_drop]
  omega
set_option maxRecDepth 100000 in
set_option maxHeartbeats 4000000 in
theorem pairs_ok (D : Words) (hcmp : ∀ x y, D.cmp x y = cmpV x y) (B : Nat) (sa : Nat → Addr) (s : ByteArray) (it : Nat → R V) (d : Nat) (hs : s.size ≤ 1000000000) (HIT : ItemC B sa s it d) (hgo : ∀ p v q, p ≤ s.size → it p = .ok v q → (p < q ∧ q ≤ s.size) ∧ Sm v)
    (b p fr op n : Nat) (w : World) (g : GL B sa w) (hB : B ≤ b) (hr : Rd w b s p fr op) (hop : op + (d + 1) = 128) (hp : p ≤ s.size) (hn : n < 18446744073709551616) :
    Calls Tryz.prog 63 #[.pointer (some ⟨b, 0, none⟩), .int .u64 (n : Int)] w (FamPost sa b s op w ((pairsN D it n p []).bind fun l q => .ok (V.map l) q)) := by
  obtain ⟨w0, b4, HW0, HB4, HK0, HT0, HL0⟩ := start w
  have hE := enter_ok b s p fr op B sa w0 (g.keep HK0.out (fun _ h => h.elim)) (hr.keep HK0.out (fun h => h)) (by omega)
  have hne : ¬ op = 128 := by omega
  simp only [if_neg hne] at hE
  have HE := Lib.hid hE
  obtain ⟨X, HX⟩ : ∃ X, Hid ((pairsN D it n p []).bind (fun l q => R.ok (V.map l) q) = X) := ⟨_, Lib.hid rfl⟩
  rw [HX.out]
  have HBB : Hid (b < w.heap.size) := Lib.hid (World.block_lt_of_cell? w _ hr.c0)
  have HG0 := Lib.hid (g.keep HK0.out (fun _ h => h.elim))
  have HITH := Lib.hid HIT
  have HGO := Lib.hid hgo
  have HP := Lib.hid hp
  have HS := Lib.hid hs
  have HOP := Lib.hid hop
  have HBL := Lib.hid hB
  have HCM := Lib.hid hcmp
  clear hE hr g HIT hgo hp hs hop hB hcmp
  go_enter Tryz.func63, Tryz.ntmps63
  go_upto_region 1 with (fail)
  rw [HW0.out, HB4.out]
  go_upto_block 0 with (go_at_call 91; go_must (refine HE.out.mono ?_); rintro e w1 ⟨rfl, hk1, hr1⟩; have HK1 := Lib.hid hk1; have HR1 := Lib.hid hr1; clear hk1 hr1)
  obtain ⟨w2, HW2⟩ : ∃ w2, Hid (w1.alloc (.cells #[.int .i8 8, .int .u64 0, .bool false, .slice none 0 0, .int .u64 0, .int .i8 0, .string ⟨#[]⟩, .slice none 0 0] 55) = w2) := ⟨_, Lib.hid rfl⟩
  obtain ⟨b7, HB7⟩ : ∃ b7, Hid (w1.heap.size = b7) := ⟨_, Lib.hid rfl⟩
  have HK2 : Hid (Keep nob w1 w2) := by unfold Hid; rw [← HW2.out]; exact (Keep.refl _ _).alloc _
  have HM : Hid (b7 < w2.heap.size) := by unfold Hid; rw [← HW2.out, ← HB7.out]; simp
  have HGR : Hid (Grow w2 b7 w2.heap.size 8 none 0 [] []) := by
    refine Lib.hid ⟨⟨Sl.nil_ ER w2 none (by decide), fun h => absurd h (by decide)⟩, fun _ ha => (by cases ha), fun _ ha => (by cases ha), trivial, ?_, ?_⟩
    · rw [← HW2.out, ← HB7.out]
      exact range_new w1 ⟨8, 0, false, none, 0, 0, 0, 0, ⟨#[]⟩, none, 0, 0⟩ 55
    · rw [← HW2.out, ← HB7.out]
      exact there_alloc_new w1 _ _ 8 (Nat.le_refl _)
  have HR2 : Hid (Rd w2 b s p fr (op + 1)) := Lib.hid (HR1.out.keep HK2.out (fun h => h))
  rw [HW2.out, HB7.out]
  go_wp2_with (fail)
  obtain ⟨m, HMM⟩ : ∃ m, Hid (w2.heap.size = m) := ⟨_, Lib.hid rfl⟩
  rw [HMM.out] at HGR HM
  have HBM : Hid (b < b7 ∧ b4 < b7) := by
    unfold Hid
    have h1 := HBB.out
    have h2 := HL0.out
    have h3 := HB7.out
    have h4 := HK1.out.size
    omega
  go_loopw [1, 5, 8, 9, 10, 11, 12] (fun u1 u5 u8 u9 u10 u11 u12 wr => ∃ (j pc fr' c : Nat) (A : Option Addr) (rs : List Raw) (acc : List V), j < 18446744073709551616 ∧ u1 = .int .u64 (j : Int) ∧ u5 = .nilIface ∧ Hid (pairsN D it j pc acc = pairsN D it n p []) ∧ Hid (pc ≤ s.size ∧ acc.length ≤ pc ∧ acc.length % 2 = 0 ∧ SmL acc) ∧ Hid (Grow wr b7 m 8 A c rs acc) ∧ Hid (Rd wr b s pc fr' (op + 1)) ∧ Hid (Keep (fun k => k = b ∨ k = b7) w2 wr)) (fun u1 _ _ _ _ _ _ _ => (intOf u1).toNat)
  case atStart => exact ⟨n, p, fr, 0, none, [], [], hn, rfl, rfl, Lib.hid rfl, Lib.hid ⟨HP.out, Nat.zero_le _, rfl, trivial⟩, HGR, HR2, Lib.hid (Keep.refl _ _)⟩
  case round =>
    obtain ⟨j, pc, fr', c, A, rs, acc, hj, rfl, rfl, HF, HPC, HGW, HRW, HKW⟩ := hrel
    obtain ⟨a0, a1, a2, a3, a4, a5, a6, a7⟩ := cells_val HGW.out.ce
    have HWS : Hid (m ≤ wr.heap.size) := by unfold Hid; rw [← HMM.out]; exact HKW.out.size
    have HTW : Hid (wr.there b4 0 8) := by
      have h1 := HBM.out
      have h2 := HL0.out
      have h3 := HBB.out
      exact Lib.hid (HKW.out.there ((HK1.out.there HT0.out (fun h => by omega)).keep' HK2.out) (fun h => by omega))
    rcases Nat.eq_zero_or_pos j with h0 | h0
    · subst h0
      have hd : decide ((0 : Int) > 0) = false := by decide
      have h3 := HRW.out.c3
      have hf3 := HRW.out.fz 3 (by decide)
      have HX2 : Hid (X = .ok (V.map acc) pc) := by
        unfold Hid
        rw [← HX.out, ← HF.out]
        rfl
      have i2 : IntKind.i64.wrap (((op + 1 : Nat) : Int) - 1) = (op : Int) := by have := HOP.out; rw [IntWalk.i64_left, IntWalk.wrap64_in _ ⟨by omega, by omega⟩]; omega
      obtain ⟨op1, HO1⟩ : ∃ op1, Hid (op + 1 = op1) := ⟨_, Lib.hid rfl⟩
      rw [HO1.out] at h3 i2 HRW
      go_upto_region 23 with (fail)
      obtain ⟨w5, HW5⟩ : ∃ w5, Hid (wr.setCell ⟨b, 3, none⟩ (.int .i64 (op : Int)) = w5) := ⟨_, Lib.hid rfl⟩
      have HK5 : Hid (Keep (· = b) wr w5) := by unfold Hid; rw [← HW5.out]; exact (Keep.refl (· = b) wr).setCell (fun _ => rfl) _
      have HR5 : Hid (Rd w5 b s pc fr' op) := by
        unfold Hid
        rw [← HW5.out]
        exact HRW.out.set3 op
      have hM := HM.out
      have hBM := HBM.out
      have hL0 := HL0.out
      have hBB := HBB.out
      have HG5 := Lib.hid (HGW.out.keep HK5.out (fun j e => by omega) (fun e => by omega))
      have HT5 := Lib.hid (HK5.out.there HTW.out (fun h => by omega))
      rw [HW5.out]
      obtain ⟨a0, a1, a2, a3, a4, a5, a6, a7⟩ := cells_val HG5.out.ce
      obtain ⟨v0, v1, v2, v3, v4, v5, v6, v7, ⟨c0, c1, c2, c3, c4, c5, c6, c7⟩, f0, f1, f2, f3, f4, f5, f6, f7⟩ := eight HT5.out
      obtain ⟨L, HLL⟩ : ∃ L, Hid (rs.length = L) := ⟨_, Lib.hid rfl⟩
      rw [HLL.out] at a7
      go_wp2
      obtain ⟨w10, e10, r10, k10⟩ := put8 HT5.out ⟨8, 0, false, none, 0, 0, 0, 0, ⟨#[]⟩, A, L, c⟩ (.int .i8 8) (.int .u64 0) (.bool false) (.slice none 0 0) (.int .u64 0) (.int .i8 0) (.string ⟨#[]⟩) (.slice A L c) rfl
      rw [e10.out]
      have hz1 := HK1.out.size
      have hz2 := HK2.out.size
      have hb7 := HB7.out
      have hmm := HMM.out
      refine ret_vt rfl rfl rfl rfl r10 ?_
      rw [HX2.out]
      have HG10 := HG5.out.keep k10 (fun j e => by omega) (fun e => by omega)
      refine ⟨?_, ⟨fr', HR5.out.keep k10 (fun h => by omega)⟩, _, rfl, ?_⟩
      · refine (((HK0.out.mono (fun _ _ h => h.elim)).then_ HK1.out).then_ (HK2.out.mono (fun _ _ h => h.elim))).trans HKW.out (fun k h1 h2 => ?_) |>.then_ HK5.out |>.trans k10 (fun k h1 h2 => ?_)
        · omega
        · omega
      · refine ⟨rfl, rfl, rfl, rfl, rfl, rfl, ⟨rfl, Sl.nil_ EU _ none (Nat.zero_le _), fun h => absurd rfl h⟩, rs, HLL.out.symm, HG10.ow.sl, fun hne => ?_, TrL.mono (fun k _ hk => by have := hk.1; omega) _ _ HG10.tr⟩
        obtain ⟨b1, o1, hA, -⟩ := HG10.ow.sl.at_ hne
        exact ⟨_, hA, by have := HG10.at_ _ hA; simp only at this ⊢; omega⟩
    · obtain ⟨i, rfl⟩ : ∃ i, j = i + 1 := ⟨j - 1, by omega⟩
      have hd : decide (((i + 1 : Nat) : Int) > 0) = true := by rw [decide_eq_true_iff]; omega
      have i1 : IntKind.u64.wrap (((i + 1 : Nat) : Int) - 1) = (i : Int) := by rw [IntKind.wrap_u64]; omega
      have h1r := HRW.out.c1
      have HKQ : Hid (Keep (fun k => k = b ∨ b7 ≤ k) w0 wr) := Lib.hid (((HK1.out.then_ (HK2.out.mono (fun _ _ h => h.elim))).mono (fun _ _ h => .inl h)).trans HKW.out (fun k h1 h2 => by have := HBM.out; omega))
      have HGLW := Lib.hid (((HG0.out.keep HK1.out (fun k h => by rw [h]; exact HBL.out)).keep HK2.out (fun _ h => h.elim)).keep HKW.out (fun k h => by have := HBM.out; have := HBL.out; omega))
      have hI := HITH.out b pc fr' (op + 1) wr HGLW.out HBL.out HRW.out (by have := HOP.out; omega) HPC.out.1
      cases hit : it pc with
      | bad cc q =>
        rw [hit] at hI
        change Calls Tryz.prog _ _ _ (fun e w' => ∃ ev, e = .returned (.tuple #[ER.val Raw.zero, ev]) ∧ Keep (· = b) wr w' ∧ FErr sa w' (fun k => wr.heap.size ≤ k) ev cc q) at hI
        have HX2 : Hid (X = .bad cc q) := by
          unfold Hid
          rw [← HX.out, ← HF.out, pairsN, hit]
          rfl
        simp only [ER, Raw.zero] at hI
        have HI := Lib.hid hI
        clear hI hit
        go_wp2_with (go_at_call 26; go_must (refine HI.out.mono ?_); rintro e w3x ⟨ev, rfl, hk3, he⟩; have HK3 := Lib.hid hk3; clear hk3; obtain ⟨bb, rfl, he1⟩ := he; have HT3 : Hid (w3x.there b4 0 8) := Lib.hid (HK3.out.there HTW.out (fun h => by have := HL0.out; have := HBB.out; omega)); obtain ⟨v0, v1, v2, v3, v4, v5, v6, v7, ⟨c0, c1, c2, c3, c4, c5, c6, c7⟩, f0, f1, f2, f3, f4, f5, f6, f7⟩ := eight (HT3.out.keep' ((Keep.refl nob w3x).alloc (.cells #[.int .i8 0, .int .u64 0, .bool false, .slice none 0 0, .int .u64 0, .int .i8 0, .string ⟨#[]⟩, .slice none 0 0] 55))))
        obtain ⟨w4x, HW4⟩ : ∃ w4x, Hid (w3x.alloc (.cells #[.int .i8 0, .int .u64 0, .bool false, .slice none 0 0, .int .u64 0, .int .i8 0, .string ⟨#[]⟩, .slice none 0 0] 55) = w4x) := ⟨_, Lib.hid rfl⟩
        have hk4 : Keep nob w3x w4x := by rw [← HW4.out]; exact (Keep.refl _ _).alloc _
        rw [HW4.out]
        obtain ⟨w10, e10, r10, k10⟩ := put8 (HT3.out.keep' hk4) Raw.zero (.int .i8 0) (.int .u64 0) (.bool false) (.slice none 0 0) (.int .u64 0) (.int .i8 0) (.string ⟨#[]⟩) (.slice none 0 0) rfl
        rw [e10.out]
        have h1 := HBM.out
        have h2 := HL0.out
        have hb7 : w0.heap.size ≤ b7 := by have := HK1.out.size; have := HB7.out; omega
        refine ret_vt rfl rfl rfl rfl r10 (fam_bad HX2 HK0 (w8 := wr) (HKQ.out.mono (fun k h3 h4 => by omega)) (HK3.out.then_ (hk4.mono (fun _ _ h => h.elim))) k10 HL0 ?_)
        exact (FErr.keep (S := nob) ⟨bb, rfl, he1⟩ hk4 (fun _ _ h => h))
      | ok key q1 =>
        rw [hit] at hI
        change Calls Tryz.prog _ _ _ (fun e w' => Keep (· = b) wr w' ∧ (∃ fr2, Rd w' b s q1 fr2 (op + 1)) ∧ ∃ r, e = .returned (.tuple #[ER.val r, .nilIface]) ∧ Tr w' (fun k => wr.heap.size ≤ k) r key) at hI
        have HF2 : Hid ((if dupN D acc (placeN D acc key (acc.length / 2)) key = true then .bad 3 pc else (it q1).bind fun x p2 => pairsN D it i p2 (insN acc (placeN D acc key (acc.length / 2)) key x)) = pairsN D it n p []) := by
          unfold Hid
          rw [← HF.out, pairsN, hit]
          rfl
        have HQS := Lib.hid (HGO.out pc key q1 HPC.out.1 hit)
        have HI := Lib.hid hI
        clear hI hit a0 a1 a2 a3 a4 a5 a6 a7
        go_upto_region 11 with (go_at_call 26; go_must (refine HI.out.mono ?_); rintro e w3 ⟨hk3, ⟨fr2, hr3⟩, rk, rfl, ht3⟩; have HK3 := Lib.hid hk3; have HR3 := Lib.hid hr3; have HT3 := Lib.hid ht3; clear hk3 hr3 ht3; unfold ER)
        obtain ⟨w4, HW4⟩ : ∃ w4, Hid (w3.alloc (.cells (ER.cells rk).toArray 55) = w4) := ⟨_, Lib.hid rfl⟩
        obtain ⟨b9, HB9⟩ : ∃ b9, Hid (w3.heap.size = b9) := ⟨_, Lib.hid rfl⟩
        have HK4 : Hid (Keep nob w3 w4) := by unfold Hid; rw [← HW4.out]; exact (Keep.refl _ _).alloc _
        have hrn := range_new w3 rk 55
        rw [HW4.out, HB9.out] at hrn
        rw [show w3.alloc (.cells #[.int .i8 (rk.kind : Int), .int .u64 (rk.n : Int), .bool rk.neg, .slice rk.mA rk.mL rk.mC, .int .u64 (rk.bits : Int), .int .i8 rk.ext, .string rk.text, .slice rk.kA rk.kL rk.kC] 55) = w4 from HW4.out, HB9.out]
        have HRK := Lib.hid hrn
        have HG4 : Hid (Grow w4 b7 m 8 A c rs acc) := Lib.hid ((HGW.out.keep HK3.out (fun j e => by have := HBM.out; have := HM.out; omega) (fun e => by have := HBM.out; omega)).keep HK4.out (fun _ h => h.elim) (fun h => h))
        have HTK : Hid (Tr w4 (fun k => wr.heap.size ≤ k) rk key) := Lib.hid (Tr.keep HK4.out (nobD _) _ _ HT3.out)
        have HR4 : Hid (Rd w4 b s q1 fr2 (op + 1)) := Lib.hid (HR3.out.keep HK4.out (fun h => h))
        have HKQ4 : Hid (Keep (fun k => k = b ∨ b7 ≤ k) w0 w4) := Lib.hid ((HKQ.out.then_ (HK3.out.mono (fun _ _ h => .inl h))).then_ (HK4.out.mono (fun _ _ h => h.elim)))
        have HKW4 : Hid (Keep (fun k => k = b ∨ k = b7) w2 w4) := Lib.hid ((HKW.out.then_ (HK3.out.mono (fun _ _ h => .inl h))).then_ (HK4.out.mono (fun _ _ h => h.elim)))
        have HGL4 := Lib.hid ((HGLW.out.keep HK3.out (fun k h => by rw [h]; exact HBL.out)).keep HK4.out (fun _ h => h.elim))
        have HTW4 : Hid (w4.there b4 0 8) := Lib.hid ((HK3.out.there HTW.out (fun h => by have := HL0.out; have := HBB.out; omega)).keep' HK4.out)
        obtain ⟨-, -, -, -, -, -, -, a7⟩ := cells_val HG4.out.ce
        obtain ⟨L, HLL⟩ : ∃ L, Hid (rs.length = L) := ⟨_, Lib.hid rfl⟩
        have HLA : Hid (acc.length = L) := by unfold Hid; rw [← HLL.out]; exact HGW.out.tr.len.symm
        obtain ⟨k, HKN⟩ : ∃ k, Hid (acc.length / 2 = k) := ⟨_, Lib.hid rfl⟩
        have HLK : Hid (L = 2 * k) := by unfold Hid; have h1 := HLA.out; have h2 := HKN.out; have h3 := HPC.out.2.2.1; omega
        have hL9 : L ≤ 1000000000 := by have h1 := HLA.out; have h2 := HPC.out; have h3 := HS.out; omega
        rw [HLL.out] at a7
        rw [HKN.out] at HF2
        clear hrn
        go_upto_block 2 with (fail)
        go_cut [11] from 40 to 54 (fun u11 wc => ∃ mm, mm ≤ k ∧ u11 = .int .i64 ((2 * mm : Nat) : Int) ∧ Hid (placeN D acc key k = mm) ∧ Hid (Keep nob w4 wc))
        case first =>
          go_wp2_with (fail)
          obtain ⟨wo, HWO⟩ : ∃ wo : World, Hid (wo = wr) := ⟨_, Lib.hid rfl⟩
          go_loopw [11] (fun u11 wv => ∃ mm : Nat, mm ≤ k ∧ u11 = .int .i64 ((2 * mm : Nat) : Int) ∧ Hid (placeN D acc key mm = placeN D acc key k) ∧ Hid (Keep nob w4 wv)) (fun u11 _ => (intOf u11).toNat)
          case atStart => exact ⟨k, Nat.le_refl _, by rw [HLK.out], Lib.hid rfl, Lib.hid (Keep.refl _ _)⟩
          case round =>
            obtain ⟨mm, hmk, rfl, HPL, HKV⟩ := hrel
            have a7 := HKV.out.cell a7 (fun h => h)
            rcases Nat.eq_zero_or_pos mm with hm0 | hm0
            · subst hm0
              have hz : decide (((2 * 0 : Nat) : Int) > 0) = false := by decide
              go_upto_region 12 with (fail)
              refine wp_region_kept (by kernel_rfl) (by kernel_rfl) (QV.out ?_)
              repeat (first
                | (refine kq_skip (by rfl) (fun K hK => ?_); go_simp; refine hK _ ?_; clear hK K)
                | (refine kq_want (by rfl) (fun K hK => ?_); first
                    | (refine BigFrame.quiet_move _ rfl ?_; go_simp; refine hK _ ?_; clear hK K)
                    | (refine kq_still ?_ (fun w' hw' => ?_) ?_; rotate_left; (skip; go_simp; first | done | exact rfl); go_simp; refine hK _ ?_; clear hK K)
                    | (go_simp; apply Exists.intro; refine ⟨fun w' hw' => ?_, hK _ ?_⟩; (first | (fail)); rintro e w'' ⟨rfl, hk''⟩; exact ⟨rfl, hw'.then_ hk''⟩; clear hK K)))
              refine ⟨wpQuiet_nil ?_⟩
              intro w9 hk9
              have HK9 := Lib.hid hk9
              clear hk9
              go_wp2_with (fail)
              go_meet
              case rel => exact ⟨0, Nat.zero_le _, rfl, Lib.hid HPL.out.symm, Lib.hid (HKV.out.then_ HK9.out)⟩
            · obtain ⟨q, rfl⟩ : ∃ q, mm = q + 1 := ⟨mm - 1, by omega⟩
              obtain ⟨a, HAQ⟩ : ∃ a, Hid (2 * (q + 1) = a) := ⟨_, Lib.hid rfl⟩
              obtain ⟨a2, HAQ2⟩ : ∃ a2, Hid (2 * q = a2) := ⟨_, Lib.hid rfl⟩
              rw [HAQ.out]
              have haa : a = a2 + 2 := by have := HAQ.out; have := HAQ2.out; omega
              have haL : a ≤ L := by have := HAQ.out; have := HLK.out; omega
              have hz : decide ((a : Int) > 0) = true := by rw [decide_eq_true_iff]; omega
              have hzn : decide (0 < a) = true := by rw [decide_eq_true_iff]; omega
              have z1 : IntKind.i64.wrap ((a : Int) - 2) = (a2 : Int) := by rw [IntWalk.i64_left, IntWalk.wrap64_in _ ⟨by omega, by omega⟩]; omega
              have z2 : (a : Int) - 2 = (a2 : Int) := by omega
              have z3 : IntKind.i64.wrap (a2 : Int) = (a2 : Int) := by rw [IntWalk.i64_left, IntWalk.wrap64_in _ ⟨by omega, by omega⟩]
              have hq0 : (0 : Int) ≤ (a2 : Int) := by omega
              have hq1 : (a2 : Int) < (L : Int) := by omega
              have hil : a2 < rs.length := by rw [HLL.out]; omega
              have hila : a2 < acc.length := by rw [HLA.out]; omega
              obtain ⟨bA, oA, hAA, hx⟩ := HG4.out.ow.sl.elem (i := a2) hil
              subst hAA
              obtain ⟨r, HR⟩ : ∃ r, Hid (rs[a2] = r) := ⟨_, Lib.hid rfl⟩
              rw [HR.out] at hx
              obtain ⟨pp, HPP⟩ : ∃ pp, Hid (oA + a2 * 8 = pp) := ⟨_, Lib.hid rfl⟩
              have hx2 : w4.rangeAt bA pp (ER.cells r) := by rw [← HPP.out]; exact hx
              have hpp := HPP.out
              have HCE : Hid (∀ w', Kept wr w' → w'.cell? ⟨b7, 7, none⟩ = some (.slice (some ⟨bA, oA, none⟩) L c) ∧ w'.rangeAt bA pp (ER.cells r) ∧ w'.rangeAt b9 0 (ER.cells rk)) := Lib.hid (fun w' hk => ⟨hk.cell a7 (fun h => h), range_keep (HKV.out.then_ hk) hx2, range_keep (HKV.out.then_ hk) HRK.out⟩)
              obtain ⟨va, HVA⟩ : ∃ va, Hid (acc[a2] = va) := ⟨_, Lib.hid rfl⟩
              have hgd : acc.getD (2 * q) V.nul = va := by rw [HAQ2.out, List.getD_eq_getElem?_getD, List.getElem?_eq_getElem hila, ← HVA.out]; rfl
              have HCO : Hid (∀ w', Kept wr w' → Calls Tryz.prog 92 #[ER.val r, ER.val rk] w' fun e w'' => e = .returned (.int .i64 (cmpV va key)) ∧ Keep nob w' w'') := Lib.hid (fun w' hk => compare_ok B sa va key r rk _ _ w' (HGL4.out.keep (HKV.out.then_ hk) (fun _ h => h.elim)) (by rw [← HR.out, ← HVA.out]; exact Tr.keep (HKV.out.then_ hk) (nobD _) _ _ (HG4.out.tr.get a2 hil hila)) (Tr.keep (HKV.out.then_ hk) (nobD _) _ _ HTK.out) (by rw [← HVA.out]; exact HPC.out.2.2.2.get a2 hila) HQS.out.2)
              have HPS : Hid (placeN D acc key (q + 1) = if 0 ≤ cmpV va key then placeN D acc key q else q + 1) := by
                unfold Hid
                rw [placeN, hgd, HCM.out]
              obtain ⟨cv, HCV⟩ : ∃ cv, Hid (cmpV va key = cv) := ⟨_, Lib.hid rfl⟩
              rw [HCV.out] at HCO HPS
              simp only [ER] at HCO
              have a7 := a7
              clear hx hx2 hgd haa
              go_upto_region 12 with (fail)
              refine wp_region_kept (by kernel_rfl) (by kernel_rfl) (QV.out ?_)
              repeat (first
                | (refine kq_skip (by rfl) (fun K hK => ?_); go_simp; refine hK _ ?_; clear hK K)
                | (refine kq_want (by rfl) (fun K hK => ?_); first
                    | (refine BigFrame.quiet_move _ rfl ?_; go_simp; refine hK _ ?_; clear hK K)
                    | (refine kq_still ?_ (fun w' hw' => ?_) ?_; rotate_left; (obtain ⟨y7, hy1, hy2⟩ := HCE.out w' hw'; obtain ⟨e0, e1, e2, e3, e4, e5, e6, e7⟩ := cells_val' hy1; obtain ⟨g0, g1, g2, g3, g4, g5, g6, g7⟩ := cells_val hy2; go_simp; first | done | exact rfl); go_simp; refine hK _ ?_; clear hK K)
                    | (go_simp; apply Exists.intro; refine ⟨fun w' hw' => ?_, hK _ ?_⟩; (first | (go_at_call 92; refine (HCO.out w' hw').mono ?_)); rintro e w'' ⟨rfl, hk''⟩; exact ⟨rfl, hw'.then_ hk''⟩; clear hK K)))
              refine ⟨wpQuiet_nil ?_⟩
              intro w9 hk9
              have HK9 := Lib.hid hk9
              clear hk9
              by_cases hc0 : 0 ≤ cv
              · rw [if_pos hc0] at HPS
                have hcd : decide (cv ≥ 0) = true := by rw [decide_eq_true_iff]; exact hc0
                have hcd2 : decide (0 ≤ cv) = true := hcd
                go_wp2_with (fail)
                refine ⟨⟨q, by omega, by rw [← HAQ2.out], ?_, Lib.hid (HKV.out.then_ HK9.out)⟩, by simp [intOf]; omega⟩
                unfold Hid
                rw [← HPL.out, HPS.out]
              · rw [if_neg hc0] at HPS
                have hcd : decide (cv ≥ 0) = false := by rw [decide_eq_false_iff_not]; exact hc0
                have hcd2 : decide (0 ≤ cv) = false := hcd
                go_wp2_with (fail)
                go_meet
                case rel => exact ⟨q + 1, hmk, by rw [← HAQ.out], by unfold Hid; rw [← HPL.out, HPS.out], Lib.hid (HKV.out.then_ HK9.out)⟩
        case rest =>
          obtain ⟨mm, hmk, rfl, HPL, HKC⟩ := hcut
          obtain ⟨a, HAQ⟩ : ∃ a, Hid (2 * mm = a) := ⟨_, Lib.hid rfl⟩
          rw [HAQ.out]
          rw [HPL.out] at HF2
          have haL : a ≤ L := by have := HAQ.out; have := HLK.out; omega
          have a7 := HKC.out.cell a7 (fun h => h)
          obtain ⟨wd, HWD⟩ : ∃ wd, Hid (wc = wd) := ⟨_, Lib.hid rfl⟩
          rw [HWD.out] at HKC a7 ⊢
          obtain ⟨dp, HDP⟩ : ∃ dp, Hid (dupN D acc mm key = dp) := ⟨_, Lib.hid rfl⟩
          rw [HDP.out] at HF2
          go_upto_region 14 with (fail)
          go_cut [69] from 55 to 68 (fun u69 wc => u69 = .bool dp ∧ Hid (Keep nob w4 wc))
          case first =>
            rcases Nat.lt_or_ge a L with haL2 | haL2
            · have hz : decide ((a : Int) < (L : Int)) = true := by rw [decide_eq_true_iff]; omega
              have hzn : decide (a < L) = true := by rw [decide_eq_true_iff]; exact haL2
              have hqa : (0 : Int) ≤ (a : Int) := by omega
              have hq1 : (a : Int) < (L : Int) := by omega
              have hil : a < rs.length := by rw [HLL.out]; omega
              have hila : a < acc.length := by rw [HLA.out]; omega
              obtain ⟨bA, oA, hAA, hx⟩ := HG4.out.ow.sl.elem (i := a) hil
              subst hAA
              obtain ⟨r, HR⟩ : ∃ r, Hid (rs[a] = r) := ⟨_, Lib.hid rfl⟩
              rw [HR.out] at hx
              obtain ⟨pp, HPP⟩ : ∃ pp, Hid (oA + a * 8 = pp) := ⟨_, Lib.hid rfl⟩
              have hx2 : w4.rangeAt bA pp (ER.cells r) := by rw [← HPP.out]; exact hx
              have hpp := HPP.out
              have HCE : Hid (∀ w', Kept wd w' → w'.cell? ⟨b7, 7, none⟩ = some (.slice (some ⟨bA, oA, none⟩) L c) ∧ w'.rangeAt bA pp (ER.cells r) ∧ w'.rangeAt b9 0 (ER.cells rk)) := Lib.hid (fun w' hk => ⟨hk.cell a7 (fun h => h), range_keep (HKC.out.then_ hk) hx2, range_keep (HKC.out.then_ hk) HRK.out⟩)
              obtain ⟨va, HVA⟩ : ∃ va, Hid (acc[a] = va) := ⟨_, Lib.hid rfl⟩
              have hgd : acc.getD (2 * mm) V.nul = va := by rw [HAQ.out, List.getD_eq_getElem?_getD, List.getElem?_eq_getElem hila, ← HVA.out]; rfl
              have HCO : Hid (∀ w', Kept wd w' → Calls Tryz.prog 92 #[ER.val r, ER.val rk] w' fun e w'' => e = .returned (.int .i64 (cmpV va key)) ∧ Keep nob w' w'') := Lib.hid (fun w' hk => compare_ok B sa va key r rk _ _ w' (HGL4.out.keep (HKC.out.then_ hk) (fun _ h => h.elim)) (by rw [← HR.out, ← HVA.out]; exact Tr.keep (HKC.out.then_ hk) (nobD _) _ _ (HG4.out.tr.get a hil hila)) (Tr.keep (HKC.out.then_ hk) (nobD _) _ _ HTK.out) (by rw [← HVA.out]; exact HPC.out.2.2.2.get a hila) HQS.out.2)
              have HDD : Hid (decide (cmpV va key = 0) = dp) := by
                unfold Hid
                rw [← HDP.out, dupN, hgd, HCM.out, HAQ.out, decide_eq_true hila, Bool.true_and]
              obtain ⟨cv, HCV⟩ : ∃ cv, Hid (cmpV va key = cv) := ⟨_, Lib.hid rfl⟩
              rw [HCV.out] at HCO HDD
              simp only [ER] at HCO
              clear hx hx2 hgd haL2
              refine wp_region_kept (by kernel_rfl) (by kernel_rfl) (QV.out ?_)
              repeat (first
                | (refine kq_skip (by rfl) (fun K hK => ?_); go_simp; refine hK _ ?_; clear hK K)
                | (refine kq_want (by rfl) (fun K hK => ?_); first
                    | (refine BigFrame.quiet_move _ rfl ?_; go_simp; refine hK _ ?_; clear hK K)
                    | (refine kq_still ?_ (fun w' hw' => ?_) ?_; rotate_left; (obtain ⟨y7, hy1, hy2⟩ := HCE.out w' hw'; obtain ⟨e0, e1, e2, e3, e4, e5, e6, e7⟩ := cells_val' hy1; obtain ⟨g0, g1, g2, g3, g4, g5, g6, g7⟩ := cells_val hy2; go_simp; first | done | exact rfl); go_simp; refine hK _ ?_; clear hK K)
                    | (go_simp; apply Exists.intro; refine ⟨fun w' hw' => ?_, hK _ ?_⟩; (first | (go_at_call 92; refine (HCO.out w' hw').mono ?_)); rintro e w'' ⟨rfl, hk''⟩; exact ⟨rfl, hw'.then_ hk''⟩; clear hK K)))
              refine ⟨wpQuiet_nil ?_⟩
              intro w9 hk9
              have HK9 := Lib.hid hk9
              clear hk9
              go_wp2_with (fail)
              go_meet
              case rel =>
                refine ⟨?_, Lib.hid (HKC.out.then_ HK9.out)⟩
                rw [← HDD.out]
                by_cases hc0 : cv = 0
                · simp [hc0]
                · simp [hc0]
            · have hz : decide ((a : Int) < (L : Int)) = false := by rw [decide_eq_false_iff_not]; omega
              have hzn : decide (a < L) = false := by rw [decide_eq_false_iff_not]; omega
              have HDD : Hid (dp = false) := by
                unfold Hid
                rw [← HDP.out, dupN, HAQ.out, decide_eq_false (by rw [HLA.out]; omega), Bool.false_and]
              have HCE : Hid (∀ w', Kept wd w' → w'.cell? ⟨b7, 7, none⟩ = some (.slice A L c)) := Lib.hid (fun w' hk => hk.cell a7 (fun h => h))
              clear haL2
              refine wp_region_kept (by kernel_rfl) (by kernel_rfl) (QV.out ?_)
              repeat (first
                | (refine kq_skip (by rfl) (fun K hK => ?_); go_simp; refine hK _ ?_; clear hK K)
                | (refine kq_want (by rfl) (fun K hK => ?_); first
                    | (refine BigFrame.quiet_move _ rfl ?_; go_simp; refine hK _ ?_; clear hK K)
                    | (refine kq_still ?_ (fun w' hw' => ?_) ?_; rotate_left; (have y7 := HCE.out w' hw'; go_simp; first | done | exact rfl); go_simp; refine hK _ ?_; clear hK K)
                    | (go_simp; apply Exists.intro; refine ⟨fun w' hw' => ?_, hK _ ?_⟩; (first | (fail)); rintro e w'' ⟨rfl, hk''⟩; exact ⟨rfl, hw'.then_ hk''⟩; clear hK K)))
              refine ⟨wpQuiet_nil ?_⟩
              intro w9 hk9
              have HK9 := Lib.hid hk9
              clear hk9
              go_wp2_with (fail)
              go_meet
              case rel => exact ⟨by rw [HDD.out], Lib.hid (HKC.out.then_ HK9.out)⟩
          case rest =>
            obtain ⟨rfl, HKC5⟩ := hcut
            obtain ⟨-, -, -, -, -, -, -, a7⟩ := cells_val (HG4.out.keep HKC5.out (fun _ h => h.elim) (fun h => h)).ce
            rw [HLL.out] at a7
            obtain ⟨w5, HW5⟩ : ∃ w5, Hid (wc = w5) := ⟨_, Lib.hid rfl⟩
            rw [HW5.out] at HKC5 a7 ⊢
            have HG5 : Hid (Grow w5 b7 m 8 A c rs acc) := Lib.hid (HG4.out.keep HKC5.out (fun _ h => h.elim) (fun h => h))
            have HRK5 : Hid (w5.rangeAt b9 0 (ER.cells rk)) := Lib.hid (range_keep HKC5.out HRK.out)
            have HTK5 : Hid (Tr w5 (fun k => wr.heap.size ≤ k) rk key) := Lib.hid (Tr.keep HKC5.out (nobD _) _ _ HTK.out)
            have HR5 : Hid (Rd w5 b s q1 fr2 (op + 1)) := Lib.hid (HR4.out.keep HKC5.out (fun h => h))
            have HKQ5 : Hid (Keep (fun k => k = b ∨ b7 ≤ k) w0 w5) := Lib.hid (HKQ4.out.then_ (HKC5.out.mono (fun _ _ h => h.elim)))
            have HKW5 : Hid (Keep (fun k => k = b ∨ k = b7) w2 w5) := Lib.hid (HKW4.out.then_ (HKC5.out.mono (fun _ _ h => h.elim)))
            have HGL5 := Lib.hid (HGL4.out.keep HKC5.out (fun _ h => h.elim))
            have HTW5 : Hid (w5.there b4 0 8) := Lib.hid (HTW4.out.keep' HKC5.out)
            have HZ5 : Hid (wr.heap.size ≤ w5.heap.size ∧ b9 < w5.heap.size ∧ wr.heap.size ≤ b9) := by
              have h1 := HK3.out.size
              have h2 := HK4.out.size
              have h3 := HKC5.out.size
              have h4 := World.block_lt_of_cell? w5 _ (HRK5.out 0 _ rfl)
              have h5 := HB9.out
              exact Lib.hid ⟨by omega, h4, by omega⟩
            cases dp with
            | true =>
              have HX2 : Hid (X = .bad 3 pc) := by
                unfold Hid
                rw [← HX.out, ← HF2.out]
                rfl
              go_wp2_with (go_at_call 16; go_must (refine (bad_ok pc B sa _ HGL5.out).mono ?_); rintro e w9 ⟨⟨ev, rfl, he⟩, hk9⟩; have HK9 := Lib.hid hk9; clear hk9; obtain ⟨bb, rfl, he1⟩ := he; obtain ⟨v0, v1, v2, v3, v4, v5, v6, v7, ⟨c0, c1, c2, c3, c4, c5, c6, c7⟩, f0, f1, f2, f3, f4, f5, f6, f7⟩ := eight (HTW5.out.keep' HK9.out))
              obtain ⟨w10, e10, r10, k10⟩ := put8 (HTW5.out.keep' HK9.out) Raw.zero (.int .i8 0) (.int .u64 0) (.bool false) (.slice none 0 0) (.int .u64 0) (.int .i8 0) (.string ⟨#[]⟩) (.slice none 0 0) rfl
              rw [e10.out]
              have h1 := HBM.out
              have h2 := HL0.out
              have hb7 : w0.heap.size ≤ b7 := by have := HK1.out.size; have := HB7.out; omega
              exact ret_vt rfl rfl rfl rfl r10 (fam_bad HX2 HK0 (w8 := w5) (HKQ5.out.mono (fun k h3 h4 => by omega)) (HK9.out.mono (fun _ _ h => h.elim)) k10 HL0 ⟨bb, rfl, he1⟩)
            | false =>
              rw [if_neg (by decide)] at HF2
              have hI := HITH.out b q1 fr2 (op + 1) w5 HGL5.out HBL.out HR5.out (by have := HOP.out; omega) HQS.out.1.2
              cases hit2 : it q1 with
              | bad cc q =>
                rw [hit2] at hI
                change Calls Tryz.prog _ _ _ (fun e w' => ∃ ev, e = .returned (.tuple #[ER.val Raw.zero, ev]) ∧ Keep (· = b) w5 w' ∧ FErr sa w' (fun k => w5.heap.size ≤ k) ev cc q) at hI
                have HX2 : Hid (X = .bad cc q) := by
                  unfold Hid
                  rw [← HX.out, ← HF2.out, hit2]
                  rfl
                simp only [ER, Raw.zero] at hI
                have HI2 := Lib.hid hI
                clear hI hit2 a7
                go_wp2_with (go_at_call 26; go_must (refine HI2.out.mono ?_); rintro e w3x ⟨ev, rfl, hk3, he⟩; have HK3 := Lib.hid hk3; clear hk3; obtain ⟨bb, rfl, he1⟩ := he; have HT3 : Hid (w3x.there b4 0 8) := Lib.hid (HK3.out.there HTW5.out (fun h => by have := HL0.out; have := HBB.out; omega)); obtain ⟨v0, v1, v2, v3, v4, v5, v6, v7, ⟨c0, c1, c2, c3, c4, c5, c6, c7⟩, f0, f1, f2, f3, f4, f5, f6, f7⟩ := eight (HT3.out.keep' ((Keep.refl nob w3x).alloc (.cells #[.int .i8 0, .int .u64 0, .bool false, .slice none 0 0, .int .u64 0, .int .i8 0, .string ⟨#[]⟩, .slice none 0 0] 55))))
                obtain ⟨w4x, HW4⟩ : ∃ w4x, Hid (w3x.alloc (.cells #[.int .i8 0, .int .u64 0, .bool false, .slice none 0 0, .int .u64 0, .int .i8 0, .string ⟨#[]⟩, .slice none 0 0] 55) = w4x) := ⟨_, Lib.hid rfl⟩
                have hk4 : Keep nob w3x w4x := by rw [← HW4.out]; exact (Keep.refl _ _).alloc _
                rw [HW4.out]
                obtain ⟨w10, e10, r10, k10⟩ := put8 (HT3.out.keep' hk4) Raw.zero (.int .i8 0) (.int .u64 0) (.bool false) (.slice none 0 0) (.int .u64 0) (.int .i8 0) (.string ⟨#[]⟩) (.slice none 0 0) rfl
                rw [e10.out]
                have h1 := HBM.out
                have h2 := HL0.out
                have hb7 : w0.heap.size ≤ b7 := by have := HK1.out.size; have := HB7.out; omega
                refine ret_vt rfl rfl rfl rfl r10 (fam_bad HX2 HK0 (w8 := w5) (HKQ5.out.mono (fun k h3 h4 => by omega)) (HK3.out.then_ (hk4.mono (fun _ _ h => h.elim))) k10 HL0 ?_)
                exact (FErr.keep (S := nob) ⟨bb, rfl, he1⟩ hk4 (fun _ _ h => h))
              | ok x q2 =>
                rw [hit2] at hI
                change Calls Tryz.prog _ _ _ (fun e w' => Keep (· = b) w5 w' ∧ (∃ fr2, Rd w' b s q2 fr2 (op + 1)) ∧ ∃ r, e = .returned (.tuple #[ER.val r, .nilIface]) ∧ Tr w' (fun k => w5.heap.size ≤ k) r x) at hI
                have HF3 : Hid (pairsN D it i q2 (insN acc mm key x) = pairsN D it n p []) := by
                  unfold Hid
                  rw [← HF2.out, hit2]
                  rfl
                have HQS2 := Lib.hid (HGO.out q1 x q2 HQS.out.1.2 hit2)
                have HI2 := Lib.hid hI
                clear hI hit2 a7
                go_upto_region 19 with (go_at_call 26; go_must (refine HI2.out.mono ?_); rintro e w6 ⟨hk6, ⟨fr6, hr6⟩, rx, rfl, ht6⟩; have HK6 := Lib.hid hk6; have HR6 := Lib.hid hr6; have HT6 := Lib.hid ht6; clear hk6 hr6 ht6; unfold ER)
                obtain ⟨w7, HW7⟩ : ∃ w7, Hid (w6.alloc (.cells (ER.cells rx).toArray 55) = w7) := ⟨_, Lib.hid rfl⟩
                obtain ⟨b12, HB12⟩ : ∃ b12, Hid (w6.heap.size = b12) := ⟨_, Lib.hid rfl⟩
                have HK7 : Hid (Keep nob w6 w7) := by unfold Hid; rw [← HW7.out]; exact (Keep.refl _ _).alloc _
                have hrn := range_new w6 rx 55
                rw [HW7.out, HB12.out] at hrn
                rw [show w6.alloc (.cells #[.int .i8 (rx.kind : Int), .int .u64 (rx.n : Int), .bool rx.neg, .slice rx.mA rx.mL rx.mC, .int .u64 (rx.bits : Int), .int .i8 rx.ext, .string rx.text, .slice rx.kA rx.kL rx.kC] 55) = w7 from HW7.out, HB12.out]
                have HRX7 := Lib.hid hrn
                have HG7 : Hid (Grow w7 b7 m 8 A c rs acc) := Lib.hid ((HG5.out.keep HK6.out (fun j e => by have := HBM.out; have := HM.out; omega) (fun e => by have := HBM.out; omega)).keep HK7.out (fun _ h => h.elim) (fun h => h))
                have HRK7 : Hid (w7.rangeAt b9 0 (ER.cells rk)) := Lib.hid (range_keep HK7.out (range_keepS HK6.out (fun e => by have h1 := HZ5.out; have h2 := HBM.out; have h3 := HWS.out; have h4 := HM.out; omega) HRK5.out))
                have HTK7 : Hid (Tr w7 (fun k => wr.heap.size ≤ k) rk key) := Lib.hid (Tr.keep HK7.out (nobD _) _ _ (Tr.keep HK6.out (fun k hk e => by have h2 := HBM.out; have h3 := HWS.out; have h4 := HM.out; omega) _ _ HTK5.out))
                have HTX7 : Hid (Tr w7 (fun k => wr.heap.size ≤ k) rx x) := Lib.hid (Tr.mono (fun k _ h => by have h1 := HZ5.out; omega) _ _ (Tr.keep HK7.out (nobD _) _ _ HT6.out))
                have HR7 : Hid (Rd w7 b s q2 fr6 (op + 1)) := Lib.hid (HR6.out.keep HK7.out (fun h => h))
                have HKW7 : Hid (Keep (fun k => k = b ∨ k = b7) w2 w7) := Lib.hid ((HKW5.out.then_ (HK6.out.mono (fun _ _ h => .inl h))).then_ (HK7.out.mono (fun _ _ h => h.elim)))
                obtain ⟨e0, e1, e2, e3, e4, e5, e6, e7⟩ := cells_val hrn
                obtain ⟨g0, g1, g2, g3, g4, g5, g6, g7⟩ := cells_val HRK7.out
                obtain ⟨-, -, -, -, -, -, -, a7⟩ := cells_val HG7.out.ce
                rw [HLL.out] at a7
                have HK8 : Hid (Keep nob w7 (w7.alloc (.cells (ER.cells rk ++ ER.cells rx).toArray 55))) := Lib.hid ((Keep.refl _ _).alloc _)
                have HG8 := Lib.hid (HG7.out.keep HK8.out (fun _ h => h.elim) (fun h => h))
                have HSL8 := Lib.hid (two_sl w7 rk rx 55)
                clear hrn
                go_upto_region 20 with (at_builtin; refine wpList_append_ow ER rfl _ _ 53 rfl 55 _ 104 Tryz.underlying53 infoValue rfl A L c rfl rs HLL.out HG8.out.ow (some ⟨w7.heap.size, 0, none⟩) 2 2 rfl [rk, rx] rfl HSL8.out (by omega) (by omega) ?_; intro A' c' w9 hap; have HAP := Lib.hid hap; clear hap; have hth9 := HAP.out.keep.there HG8.out.th (fun ⟨a, ha, hb⟩ => by have h1 := HG8.out.at_ a ha; have h2 := HM.out; omega); obtain ⟨-, -, -, -, -, -, -, v7, ⟨-, -, -, -, -, -, -, d7⟩, -, -, -, -, -, -, -, f7⟩ := eight hth9; clear hth9)
                obtain ⟨w10, HW10⟩ : ∃ w10, Hid (w9.setCell ⟨b7, 7, none⟩ (.slice A' (L + 2) c') = w10) := ⟨_, Lib.hid rfl⟩
                have HK10 : Hid (Keep (· = b7) w9 w10) := by unfold Hid; rw [← HW10.out]; exact (Keep.refl (· = b7) _).setCell (fun _ => rfl) _
                have x7 : w10.cell? ⟨b7, 7, none⟩ = some (.slice A' (L + 2) c') := by rw [← HW10.out]; exact World.cell?_setCell_same _ _ _ d7
                have HAm' : Hid (∀ q, A' = some q → m ≤ q.block ∧ q.block ≠ b9 ∧ q.block ≠ b12) := by
                  refine Lib.hid (fun q hq => ?_)
                  have h1 := HZ5.out
                  have h2 := HWS.out
                  have h3 := HK6.out.size
                  have h4 := HK7.out.size
                  have h5 := HK8.out.size
                  have h6 := World.block_lt_of_cell? w7 _ e0
                  have h7 := HB12.out
                  rcases HAP.out.lies q hq with ⟨q0, h8, h9⟩ | ⟨h9, _⟩
                  · have h10 := HG8.out.at_ q0 h8
                    have h11 := HGW.out.lt q0 h8
                    simp only at h6
                    omega
                  · have h12 : w7.heap.size ≤ q.block := by rw [h9]; exact HK8.out.size
                    simp only at h6
                    omega
                have HOW10 : Hid (Ow ER w10 A' c' (rs ++ [rk, rx])) := Lib.hid (HAP.out.ow.keep HK10.out (fun ⟨q, hq, hb⟩ => by have h1 := HAm'.out q hq; have h2 := HM.out; omega))
                rw [HW10.out]
                have hAne : ∀ q, A = some q → q.block ≠ b9 ∧ q.block ≠ b12 ∧ q.block ≠ b7 := fun q hq => by
                  have h1 := HZ5.out
                  have h2 := HGW.out.lt q hq
                  have h3 := HG8.out.at_ q hq
                  have h4 := HM.out
                  have h5 := HK6.out.size
                  have h6 := HB12.out
                  omega
                have HRK10 : Hid (w10.rangeAt b9 0 (ER.cells rk)) := Lib.hid (range_keepS HK10.out (fun e => by have h1 := HZ5.out; have h2 := HWS.out; have h3 := HM.out; omega) (range_keepS HAP.out.keep (fun ⟨q, hq, hb⟩ => (hAne q hq).1 hb) (range_keep HK8.out HRK7.out)))
                have HRX10 : Hid (w10.rangeAt b12 0 (ER.cells rx)) := Lib.hid (range_keepS HK10.out (fun e => by have h1 := HZ5.out; have h2 := HWS.out; have h3 := HM.out; have h4 := HK6.out.size; have h5 := HB12.out; omega) (range_keepS HAP.out.keep (fun ⟨q, hq, hb⟩ => (hAne q hq).2.1 hb) (range_keep HK8.out HRX7.out)))
                have hcL : L + 2 ≤ c' := by have := HOW10.out.sl.le; rw [List.length_append, HLL.out] at this; exact this
                obtain ⟨bA, oA, hAA, -⟩ := HOW10.out.room (by omega)
                subst hAA
                have hbA := HAm'.out _ rfl
                simp only at hbA
                clear hAne e0 e1 e2 e3 e4 e5 e6 e7 g0 g1 g2 g3 g4 g5 g6 g7 a7 d7 f7
                obtain ⟨a3, HA3⟩ : ∃ a3, Hid (a + 2 = a3) := ⟨_, Lib.hid rfl⟩
                obtain ⟨L2, HL2⟩ : ∃ L2, Hid (L + 2 = L2) := ⟨_, Lib.hid rfl⟩
                rw [HL2.out] at x7 hcL ⊢
                have hA3 := HA3.out
                have hL2 := HL2.out
                have z1 : IntKind.i64.wrap ((a : Int) + 2) = (a3 : Int) := by rw [IntWalk.i64_left, IntWalk.wrap64_in _ ⟨by omega, by omega⟩]; omega
                have z2 : (a : Int) + 2 = (a3 : Int) := by omega
                have z3 : IntKind.i64.wrap (a3 : Int) = (a3 : Int) := by rw [IntWalk.i64_left, IntWalk.wrap64_in _ ⟨by omega, by omega⟩]
                obtain ⟨D1, HD1⟩ : ∃ D1, Hid (cutA (some ⟨bA, oA, none⟩) c' a3 8 = D1) := ⟨_, Lib.hid rfl⟩
                obtain ⟨D2, HD2⟩ : ∃ D2, Hid (cutA (some ⟨bA, oA, none⟩) c' a 8 = D2) := ⟨_, Lib.hid rfl⟩
                obtain ⟨n1, HN1⟩ : ∃ n1, Hid (L2 - a3 = n1) := ⟨_, Lib.hid rfl⟩
                obtain ⟨n2, HN2⟩ : ∃ n2, Hid (L2 - a = n2) := ⟨_, Lib.hid rfl⟩
                obtain ⟨c1, HC1⟩ : ∃ c1, Hid (c' - a3 = c1) := ⟨_, Lib.hid rfl⟩
                obtain ⟨c2, HC2⟩ : ∃ c2, Hid (c' - a = c2) := ⟨_, Lib.hid rfl⟩
                have hs1 : ∀ W : World, (Instr.slice 53 (.slice (some ⟨bA, oA, none⟩) L2 c') (some (.int .i64 (a3 : Int))) none none).run Tryz.prog W = .ok (.slice D1 n1 c1) W := fun W => by
                  rw [← HD1.out, ← HN1.out, ← HC1.out]
                  exact run_slice_l W 53 55 8 Tryz.underlying53 sizeValue _ L2 c' a3 _ rfl (by omega) hcL
                have hs2 : ∀ W : World, (Instr.slice 53 (.slice (some ⟨bA, oA, none⟩) L2 c') (some (.int .i64 (a : Int))) none none).run Tryz.prog W = .ok (.slice D2 n2 c2) W := fun W => by
                  rw [← HD2.out, ← HN2.out, ← HC2.out]
                  exact run_slice_l W 53 55 8 Tryz.underlying53 sizeValue _ L2 c' a _ rfl (by omega) hcL
                go_upto_region 20 with (fail)
                go_still_tail 9, (by kernel_rfl)
                change wpList _ _ _ _ _ w10.drew
                have hn1 : n1 = L - a := by have := HN1.out; omega
                have HKD : Hid (Keep nob w10 w10.drew) := Lib.hid (Keep.refl nob w10).drew
                have HOWD : Hid (Ow ER w10.drew (some ⟨bA, oA, none⟩) c' (rs ++ [rk, rx])) := Lib.hid (HOW10.out.keep HKD.out (fun ⟨_, _, h⟩ => h))
                have HSLD : Hid (Sl ER w10.drew D2 c2 ((rs ++ [rk, rx]).drop a)) := by
                  have h1 := HOWD.out.sl.drop (k := a) (by rw [List.length_append, HLL.out]; exact Nat.le_trans haL (Nat.le_add_right _ _))
                  rw [HC2.out] at h1
                  rw [← HD2.out]
                  exact Lib.hid h1
                have hrm : 0 < n1 → ∃ b o, D1 = some ⟨b, o, none⟩ ∧ w10.drew.there b o (n1 * ER.sz) := fun h => by
                  refine ⟨bA, oA + a3 * 8, ?_, ?_⟩
                  · rw [← HD1.out]
                    unfold cutA
                    rw [if_neg (by omega), Option.map_some, Addr.add_mid]
                  · obtain ⟨b', o', e', ht⟩ := HOWD.out.room (by omega)
                    simp only [Option.some.injEq, Addr.mk.injEq, and_true] at e'
                    obtain ⟨rfl, rfl⟩ := e'
                    exact there_sub ht (by omega) (by simp only [ER]; omega)
                refine wpList_copy_E ER rfl _ _ 53 53 rfl 55 Tryz.underlying53 sizeValue D1 n1 c1 rfl D2 n2 c2 rfl ((rs ++ [rk, rx]).drop a) (by rw [List.length_drop, List.length_append, HLL.out]; exact (by omega : L + 2 - a = L2 - a).trans HN2.out) HSLD.out n1 (by have := HN2.out; simp only [Nat.min_def]; split <;> omega) hrm ?_
                intro w11 hz0 hz1
                have hSH := shifted (w' := w11) HOWD.out HLL.out haL (fun h => hz0.out (by omega)) (fun b o h1 h2 => by have h3 := hz1.out b o (by omega) (by rw [← HD1.out, ← hA3]; exact h2); rwa [hn1] at h3)
                have HOW11 := Lib.hid hSH.1
                have HK11 : Hid (Keep (· = bA) w10 w11) := Lib.hid ((HKD.out.mono (fun _ _ h => h.elim)).then_ hSH.2)
                obtain ⟨g0, g1, g2, g3, g4, g5, g6, g7⟩ := cells_val (range_keepS HK11.out (fun e => hbA.2.1 e.symm) HRK10.out)
                obtain ⟨e0, e1, e2, e3, e4, e5, e6, e7⟩ := cells_val (range_keepS HK11.out (fun e => hbA.2.2 e.symm) HRX10.out)
                have x7 := HK11.out.cell x7 (fun e => by have h1 : b7 = bA := e; have h2 := HM.out; omega)
                clear hSH hz0 hz1 hs1 hs2 hrm z1 z2 z3
                have hth := two_there HOW11.out (a := a) (by omega)
                obtain ⟨pp, HPP⟩ : ∃ pp, Hid (oA + a * 8 = pp) := ⟨_, Lib.hid rfl⟩
                rw [HPP.out] at hth
                have HTH := Lib.hid hth
                obtain ⟨v0, v1, v2, v3, v4, v5, v6, v7, v8, v9, v10, v11, v12, v13, v14, v15, ⟨y0, y1, y2, y3, y4, y5, y6, y7, y8, y9, y10, y11, y12, y13, y14, y15⟩, f0, f1, f2, f3, f4, f5, f6, f7, f8, f9, f10, f11, f12, f13, f14, f15⟩ := sixteen hth
                clear hth
                have hpp := HPP.out
                obtain ⟨a1, HA1⟩ : ∃ a1, Hid (a + 1 = a1) := ⟨_, Lib.hid rfl⟩
                have hA1 := HA1.out
                have hpp1 : oA + a1 * 8 = pp + 8 := by omega
                have z1 : IntKind.i64.wrap ((a : Int) + 1) = (a1 : Int) := by rw [IntWalk.i64_left, IntWalk.wrap64_in _ ⟨by omega, by omega⟩]; omega
                have z2 : (a : Int) + 1 = (a1 : Int) := by omega
                have z3 : IntKind.i64.wrap (a1 : Int) = (a1 : Int) := by rw [IntWalk.i64_left, IntWalk.wrap64_in _ ⟨by omega, by omega⟩]
                have qa : (0 : Int) ≤ (a : Int) := by omega
                have qb : (a : Int) < (L2 : Int) := by omega
                have qc : (0 : Int) ≤ (a1 : Int) := by omega
                have qd : (a1 : Int) < (L2 : Int) := by omega
                have n7 : ¬ b7 = bA := by have h2 := HM.out; omega
                have n9 : ¬ b9 = bA := fun e => hbA.2.1 e.symm
                have n12 : ¬ b12 = bA := fun e => hbA.2.2 e.symm
                have n7' : ¬ bA = b7 := fun e => n7 e.symm
                have n9' : ¬ bA = b9 := hbA.2.1
                have n12' : ¬ bA = b12 := hbA.2.2
                clear hA1 hA3 hL2 hn1 hcL hbA
                go_upto_region 21 with (fail)
                go_region_held3 (fun w' => w'.cell? ⟨b7, 7, none⟩ = some (.slice (some ⟨bA, oA, none⟩) L2 c') ∧ w'.cell? ⟨b9, 0, none⟩ = some (.int .i8 (rk.kind : Int)) ∧ w'.cell? ⟨b9, 1, none⟩ = some (.int .u64 (rk.n : Int)) ∧ w'.cell? ⟨b9, 2, none⟩ = some (.bool rk.neg) ∧ w'.cell? ⟨b9, 3, none⟩ = some (.slice rk.mA rk.mL rk.mC) ∧ w'.cell? ⟨b9, 4, none⟩ = some (.int .u64 (rk.bits : Int)) ∧ w'.cell? ⟨b9, 5, none⟩ = some (.int .i8 rk.ext) ∧ w'.cell? ⟨b9, 6, none⟩ = some (.string rk.text) ∧ w'.cell? ⟨b9, 7, none⟩ = some (.slice rk.kA rk.kL rk.kC) ∧ w'.cell? ⟨b12, 0, none⟩ = some (.int .i8 (rx.kind : Int)) ∧ w'.cell? ⟨b12, 1, none⟩ = some (.int .u64 (rx.n : Int)) ∧ w'.cell? ⟨b12, 2, none⟩ = some (.bool rx.neg) ∧ w'.cell? ⟨b12, 3, none⟩ = some (.slice rx.mA rx.mL rx.mC) ∧ w'.cell? ⟨b12, 4, none⟩ = some (.int .u64 (rx.bits : Int)) ∧ w'.cell? ⟨b12, 5, none⟩ = some (.int .i8 rx.ext) ∧ w'.cell? ⟨b12, 6, none⟩ = some (.string rx.text) ∧ w'.cell? ⟨b12, 7, none⟩ = some (.slice rx.kA rx.kL rx.kC)) (go_keep) (fail)
                change Exit.inBlock _ _ _ _ (w11.setCells bA pp (ER.flat [rk, rx])).drew
                obtain ⟨w12, HW12⟩ : ∃ w12, Hid ((w11.setCells bA pp (ER.flat [rk, rx])).drew = w12) := ⟨_, Lib.hid rfl⟩
                rw [HW12.out]
                have HK12 : Hid (Keep (· = bA) w11 w12) := by
                  unfold Hid
                  rw [← HW12.out]
                  exact ((Keep.refl (· = bA) w11).setCells _ _ (fun _ => rfl)).drew
                have HOW12 : Hid (Ow ER w12 (some ⟨bA, oA, none⟩) c' (rs.take a ++ rk :: rx :: rs.drop a)) := by
                  have h1 := placed HOW11.out HLL.out haL
                  rw [HPP.out] at h1
                  unfold Hid
                  rw [← HW12.out]
                  exact h1.keep (Keep.refl nob _).drew (fun ⟨_, _, h⟩ => h)
                have HKA : Hid (Keep (· = bA) w10 w12) := Lib.hid (HK11.out.then_ HK12.out)
                have h7A : ¬ AtB A b7 := fun ⟨q, hq, hb⟩ => by have h1 := HG8.out.at_ q hq; have h2 := HM.out; omega
                have hce : w12.rangeAt b7 0 (ER.cells ⟨8, 0, false, none, 0, 0, 0, 0, ⟨#[]⟩, some ⟨bA, oA, none⟩, rs.length + 2, c'⟩) := by
                  have h1 := range_kids (range_keepS HAP.out.keep h7A HG8.out.ce) (some ⟨bA, oA, none⟩) L2 c'
                  rw [HL2.out] at HW10
                  rw [HW10.out] at h1
                  rw [HLL.out, HL2.out]
                  exact range_keepS HKA.out n7 h1
                have hth : w12.there b7 0 8 := by
                  have h1 : w10.there b7 0 8 := by
                    rw [← HW10.out]
                    exact World.there_setCells (HAP.out.keep.there HG8.out.th h7A) b7 7 [.slice (some ⟨bA, oA, none⟩) (L + 2) c']
                  exact HKA.out.there h1 n7
                have hK8 := HK8.out
                have hgi := HG8.out.ins (mm := mm) (n := wr.heap.size) (w12 := w12) (vk := key) (vx := x) HAP.out HM.out (by have h1 := HZ5.out; have h2 := HWS.out; have h3 := HK6.out.size; have h4 := HK7.out.size; have h5 := hK8.size; omega) (Tr.keep hK8 (nobD _) _ _ HTK7.out) (Tr.keep hK8 (nobD _) _ _ HTX7.out) HWS.out (fun q hq => HGW.out.lt q hq) ((HK10.out.mono (fun _ _ h => .inr h)).then_ (HKA.out.mono (fun k _ h => .inl ⟨_, rfl, h.symm⟩))) (by rw [HAQ.out]; exact HOW12.out) hce hth
                rw [HAQ.out] at hgi
                have HGI := Lib.hid hgi
                have HM7 := HM.out
                have HR12 : Hid (Rd w12 b s q2 fr6 (op + 1)) := Lib.hid ((HR7.out.keep hK8 (fun h => h)).keep hgi.2 (by
                  have h1 := HBM.out
                  have h2 := HWS.out
                  have h3 := HZ5.out
                  have h4 := HK6.out.size
                  have h5 := HK7.out.size
                  have h6 := hK8.size
                  rintro (⟨q, hq, hb⟩ | h | h)
                  · have := HG8.out.at_ q hq; omega
                  · omega
                  · omega))
                have HKW12 : Hid (Keep (fun k => k = b ∨ k = b7) w2 w12) := Lib.hid ((HKW7.out.then_ (hK8.mono (fun _ _ h => h.elim))).trans hgi.2 (by
                  have h1 := HMM.out
                  have h2 := HWS.out
                  have h3 := HZ5.out
                  have h4 := HK6.out.size
                  have h5 := HK7.out.size
                  have h6 := hK8.size
                  rintro k hk (⟨q, hq, hb⟩ | h | h)
                  · have := HG8.out.at_ q hq; omega
                  · exact .inr h
                  · omega))
                clear hgi hce hth h7A hK8
                go_wp2_with (fail)
                refine ⟨⟨i, q2, fr6, c', some ⟨bA, oA, none⟩, rs.take a ++ rk :: rx :: rs.drop a, insN acc mm key x, by omega, rfl, rfl, HF3, Lib.hid ⟨HQS2.out.1.2, ?_, ?_, SmL.ins HPC.out.2.2.2 _ HQS.out.2 HQS2.out.2⟩, Lib.hid HGI.out.1, HR12, HKW12⟩, by simp [intOf]⟩
                · have h1 := HPC.out.2.1; have h2 := HQS.out.1.1; have h3 := HQS2.out.1.1; rw [insN_len]; omega
                · have h1 := HPC.out.2.2.1; rw [insN_len]; omega
end Go.Proofs.YtiemkfibpfndaaaGreatDoor

/- packread's families, by name. -/
namespace Go.Proofs.YtiemkfibpfndaaaGreatDoor
open Go.RowKit

def Wd : Words := ⟨ofV 23 (-149) 8, ofV 52 (-1074) 11, wholeV, belowV, twosV, cmpV⟩
/-- what a family may be asked -/
def fits : Fam → Nat → Prop
  | .below, n => 0 < n ∧ n ≤ 256
  | .word, n => n ≤ 2
  | .single, n => n < 4294967296
  | .signed, n => 0 < n ∧ n ≤ 8
  | _, n => n < 18446744073709551616
def fitsH : Fam → Nat → Bool
  | .below, n => decide (0 < n ∧ n ≤ 256)
  | .word, n => decide (n ≤ 2)
  | .single, _ => false
  | .signed, n => decide (0 < n ∧ n ≤ 8)
  | _, n => decide (n < 18446744073709551616)
def fitsW : Fam → Nat → Bool
  | .single, k => decide (k = 4)
  | .below, _ => false
  | .word, _ => false
  | .signed, _ => false
  | _, _ => true
def fitsB (x : Option (Fam × Nat × Nat)) : Bool := match x with
  | none => true
  | some (f, n, k) => (decide (k = 0) && fitsH f n) || (decide (0 < k) && decide (k ≤ 8) && fitsW f k)
theorem pick_fitsB : (List.range 256).all (fun c => fitsB (pickN c)) = true := by kernel_rfl
theorem pick_fits {c : Nat} (h : c < 256) : fitsB (pickN c) = true := List.all_eq_true.1 pick_fitsB c (List.mem_range.2 h)
theorem fits_here {c n k : Nat} {f : Fam} (h : c < 256) (hp : pickN c = some (f, n, k)) : k ≤ 8 ∧ (k = 0 → fits f n) := by
  have h1 := pick_fits h
  rw [hp] at h1
  simp only [fitsB, Bool.or_eq_true, Bool.and_eq_true, decide_eq_true_eq] at h1
  refine ⟨by omega, fun hk => ?_⟩
  have h2 : fitsH f n = true := by
    rcases h1 with h1 | h1
    · exact h1.2
    · omega
  cases f <;> simp only [fitsH, fits, decide_eq_true_eq] at h2 ⊢ <;> first | exact h2 | cases h2
theorem beN_fold : ∀ (l : List Nat) (x : Nat), (∀ y ∈ l, y < 256) → l.foldl (fun x b => x * 256 + b) x < (x + 1) * 256 ^ l.length
  | [], x, _ => by simp
  | y :: l, x, h => by
    have h1 := beN_fold l (x * 256 + y) (fun z hz => h z (by simp [hz]))
    have h2 := h y (by simp)
    refine Nat.lt_of_lt_of_le h1 ?_
    rw [List.length_cons, Nat.pow_succ, Nat.mul_comm (256 ^ l.length) 256, ← Nat.mul_assoc]
    exact Nat.mul_le_mul_right _ (by omega)
theorem bl_lt (t : ByteArray) : ∀ y ∈ bl t, y < 256 := fun y hy => by
  unfold bl at hy
  obtain ⟨u, _, rfl⟩ := List.mem_map.1 hy
  exact UInt8.toNat_lt u
theorem beN_lt (t : ByteArray) : beN (bl t) < 256 ^ t.size := by
  have := beN_fold (bl t) 0 (bl_lt t)
  rw [bl_len] at this
  simpa [beN] using this
theorem fits_read {c n k : Nat} {f : Fam} (h : c < 256) (hp : pickN c = some (f, n, k)) (hk : k ≠ 0) {t : ByteArray} (ht : t.size = k) : fits f (beN (bl t)) := by
  have h1 := pick_fits h
  rw [hp] at h1
  have h2 := beN_lt t
  rw [ht] at h2
  simp only [fitsB, Bool.or_eq_true, Bool.and_eq_true, decide_eq_true_eq] at h1
  have h5 : k ≤ 8 := by omega
  have h6 : fitsW f k = true := by
    rcases h1 with h1 | h1
    · exact absurd h1.1 hk
    · exact h1.2
  have h3 : 256 ^ k ≤ 256 ^ 8 := Nat.pow_le_pow_right (by decide) h5
  have h4 : beN (bl t) < 18446744073709551616 := Nat.lt_of_lt_of_le h2 h3
  cases f <;> simp only [fitsW, fits, decide_eq_true_eq] at h6 ⊢ <;> first | exact h4 | cases h6
  exact h2
/-- what is known of the items within -/
def InC (B : Nat) (sa : Nat → Addr) (s : ByteArray) (inner : Option (Nat → R V)) (op : Nat) : Prop := match inner with
  | none => op = 128
  | some it => ∃ d, op + (d + 1) = 128 ∧ ItemC B sa s it d ∧ ∀ p v q, p ≤ s.size → it p = .ok v q → (p < q ∧ q ≤ s.size) ∧ Sm v
theorem quiet_fam {sa : Nat → Addr} {b p fr op k : Nat} {s : ByteArray} {w : World} {args : Array Value} {v : V} (hr : Rd w b s p fr op)
    (h : Calls Tryz.prog k args w fun e w' => Keep nob w w' ∧ ∃ r, e = .returned (.tuple #[ER.val r, .nilIface]) ∧ Tr w' (fun k => w.heap.size ≤ k) r v) : Calls Tryz.prog k args w (FamPost sa b s op w (.ok v p)) :=
  h.mono (fun _ _ ⟨k, r, he, ht⟩ => ⟨k.mono (fun _ _ h => h.elim), ⟨_, hr.keep k (fun h => h)⟩, r, he, ht⟩)
theorem fam_ok (B : Nat) (sa : Nat → Addr) (s : ByteArray) (inner : Option (Nat → R V)) (hs : s.size ≤ 1000000000) (f : Fam) (b p fr op n : Nat) (w : World) (g : GL B sa w) (hB : B ≤ b) (hr : Rd w b s p fr op) (hin : InC B sa s inner op) (hp : p ≤ s.size) (hf : fits f n) :
    Calls Tryz.prog (famFn f) #[.pointer (some ⟨b, 0, none⟩), .int .u64 (n : Int)] w (FamPost sa b s op w (famR Wd s inner fr f n p)) := by
  cases f with
  | whole => exact quiet_fam hr (whole_ok b n hf w)
  | below => exact quiet_fam hr (below_ok b n hf.1 hf.2 w)
  | word => exact quiet_fam hr (word_ok b n hf w)
  | single => exact quiet_fam hr (single_ok b n B hf sa w g)
  | double => exact quiet_fam hr (double_ok b n B hf sa w g)
  | text => exact text_ok b s p fr op n B sa w g hB hr hp (by omega) hf
  | ext => exact ext_ok b s p fr op n B sa w g hB hr hp (by omega) hf
  | signed => exact signed_ok b s p fr op n B sa w g hB hr hp hs hf.1 (by have := hf.2; omega)
  | bytes =>
    refine (bytes_ok b s p fr op n B sa w g hr hp (by omega) hf).mono ?_
    intro e w' h
    unfold famR
    cases ht : takeR s p n with
    | ok t q =>
      rw [ht] at h
      exact ⟨h.1, ⟨_, h.2.1⟩, h.2.2⟩
    | bad c q =>
      rw [ht] at h
      exact h
  | list =>
    cases inner with
    | none =>
      have : op = 128 := hin
      subst this
      exact list_deep b s p fr n B sa w g hr
    | some it =>
      obtain ⟨d, h1, h2, h3⟩ := hin
      exact list_ok B sa s it d hs h2 (fun p v q h4 h5 => (h3 p v q h4 h5).1) b p fr op n w g hB hr h1 hp hf
  | pairs =>
    cases inner with
    | none =>
      have : op = 128 := hin
      subst this
      exact pairs_deep b s p fr n B sa w g hr
    | some it =>
      obtain ⟨d, h1, h2, h3⟩ := hin
      exact pairs_ok Wd (fun _ _ => rfl) B sa s it d hs h2 h3 b p fr op n w g hB hr h1 hp hf
end Go.Proofs.YtiemkfibpfndaaaGreatDoor

/- packread's items: the walk. -/
namespace Go.Proofs.YtiemkfibpfndaaaGreatDoor
open Go.RowKit

theorem call_fam (f : Fam) (args : Array Value) (w : World) : (callFunc (famFn f) args).run Tryz.prog w = .ok (.enter (famFn f) args) w := by
  cases f <;> (simp only [famFn]; go_simp)
set_option maxRecDepth 100000 in
set_option maxHeartbeats 2000000 in
theorem item_walk (B : Nat) (sa : Nat → Addr) (s : ByteArray) (inner : Option (Nat → R V)) (hs : s.size ≤ 1000000000) (b p fr op : Nat) (w : World) (g : GL B sa w) (hB : B ≤ b) (hr : Rd w b s p fr op) (hin : InC B sa s inner op) (hp : p ≤ s.size) :
    Calls Tryz.prog 26 #[.pointer (some ⟨b, 0, none⟩)] w (FamPost sa b s op w (itemF Wd s inner p)) := by
  obtain ⟨w0, b4, HW0, HB4, HK0, HT0, HL0⟩ := start w
  have HBB : Hid (b < w.heap.size) := Lib.hid (World.block_lt_of_cell? w _ hr.c0)
  have HG0 := Lib.hid (g.keep HK0.out (fun _ h => h.elim))
  have HR0 := Lib.hid (hr.keep HK0.out (fun h => h))
  have hT := take_ok b s p fr op 1 B sa w0 HG0.out HR0.out hp (by omega) (by decide)
  obtain ⟨X, HX⟩ : ∃ X, Hid (itemF Wd s inner p = X) := ⟨_, Lib.hid rfl⟩
  rw [HX.out]
  have HIN := Lib.hid hin
  have HBL := Lib.hid hB
  have HS := Lib.hid hs
  have h1 := HR0.out.c1
  clear g hB hr hin hs
  cases ht : takeR s p 1 with
  | bad c q =>
    have HX2 : Hid (X = .bad c q) := by
      unfold Hid
      rw [← HX.out, itemF, ht]
      rfl
    rw [ht] at hT
    dsimp only at hT
    have HT := Lib.hid hT
    clear hT
    go_enter Tryz.func26, Tryz.ntmps26
    go_upto_region 1 with (fail)
    rw [HW0.out, HB4.out]
    go_wp2_with (go_at_call 39; go_must (refine HT.out.mono ?_); rintro e w9 ⟨ev, rfl, hk9, he⟩; have HK9 := Lib.hid hk9; clear hk9; obtain ⟨bb, rfl, he1⟩ := he; obtain ⟨v0, v1, v2, v3, v4, v5, v6, v7, ⟨c0, c1, c2, c3, c4, c5, c6, c7⟩, f0, f1, f2, f3, f4, f5, f6, f7⟩ := eight (HT0.out.keep' HK9.out))
    obtain ⟨w10, e10, r10, k10⟩ := put8 (HT0.out.keep' HK9.out) Raw.zero (.int .i8 0) (.int .u64 0) (.bool false) (.slice none 0 0) (.int .u64 0) (.int .i8 0) (.string ⟨#[]⟩) (.slice none 0 0) rfl
    rw [e10.out]
    exact ret_vt rfl rfl rfl rfl r10 (fam_bad HX2 HK0 (Keep.refl _ _) (HK9.out.mono (fun _ _ h => h.elim)) k10 HL0 ⟨bb, rfl, he1⟩)
  | ok t p1 =>
    obtain ⟨e0, rfl, hp1⟩ := take_size ht
    have hp1 := hp1 hp
    have hsz : t.size = 1 := by rw [e0, ByteArray.size_extract]; omega
    have hpos : 0 < t.size := by omega
    obtain ⟨c, HC⟩ : ∃ c : Nat, Hid ((bl t).headD 0 = c) := ⟨_, Lib.hid rfl⟩
    have hc0 : (t[0]'hpos).toNat = c := by rw [← HC.out]; exact head_at hpos
    have hc1 : c < 256 := by rw [← hc0]; exact UInt8.toNat_lt _
    rw [ht] at hT
    dsimp only at hT
    have HT := Lib.hid hT
    have HXP : Hid (X = match pickN c with
      | none => .bad 3 p
      | some (f, n, w) => if w = 0 then famR Wd s inner p f n (p + 1) else (takeR s (p + 1) w).bind fun t p2 => famR Wd s inner p f (beN (bl t)) p2) := by
      unfold Hid
      rw [← HX.out, itemF, ht, ← HC.out]
      rfl
    have HP1 := Lib.hid hp1
    clear e0 hT ht hp1
    go_enter Tryz.func26, Tryz.ntmps26
    go_upto_region 1 with (fail)
    rw [HW0.out, HB4.out]
    go_upto_region 5 with (go_at_call 39; go_must (refine HT.out.mono ?_); rintro e w1 ⟨rfl, hk1, hr1⟩; have HK1 := Lib.hid hk1; have HR1 := Lib.hid hr1; clear hk1 hr1)
    have HG1 := Lib.hid (HG0.out.keep HK1.out (fun k h => by rw [h]; exact HBL.out))
    have HTW1 : Hid (w1.there b4 0 8) := Lib.hid (HK1.out.there HT0.out (fun h => by have := HL0.out; have := HBB.out; omega))
    cases hpk : pickN c with
    | none =>
      have HX2 : Hid (X = .bad 3 p) := by
        unfold Hid
        rw [HXP.out, hpk]
      have HPK : Hid (∀ W, Calls Tryz.prog 40 #[.pointer (some ⟨b, 0, none⟩), .int .u8 (c : Int)] W (PickPost b W none)) := Lib.hid (fun W => by rw [← hpk]; exact pick_ok b c hc1 W)
      go_upto_region 6 with (go_at_call 40; go_must (refine (HPK.out _).mono ?_); rintro e w2 ⟨hk2, rfl⟩; have HK2 := Lib.hid hk2; clear hk2)
      obtain ⟨w3, HW3⟩ : ∃ w3, Hid (w2.alloc (.cells #[.nilFunc, .int .u64 0, .int .i64 0] 111) = w3) := ⟨_, Lib.hid rfl⟩
      have HK3 : Hid (Keep nob w1 w3) := by unfold Hid; rw [← HW3.out]; exact HK2.out.alloc _
      rw [HW3.out]
      go_wp2_with (go_at_call 16; go_must (refine (bad_ok p B sa _ (HG1.out.keep HK3.out (fun _ h => h.elim))).mono ?_); rintro e w9 ⟨⟨ev, rfl, he⟩, hk9⟩; have HK9 := Lib.hid hk9; clear hk9; obtain ⟨bb, rfl, he1⟩ := he; obtain ⟨v0, v1, v2, v3, v4, v5, v6, v7, ⟨c0, c1, c2, c3, c4, c5, c6, c7⟩, f0, f1, f2, f3, f4, f5, f6, f7⟩ := eight ((HTW1.out.keep' HK3.out).keep' HK9.out))
      obtain ⟨w10, e10, r10, k10⟩ := put8 ((HTW1.out.keep' HK3.out).keep' HK9.out) Raw.zero (.int .i8 0) (.int .u64 0) (.bool false) (.slice none 0 0) (.int .u64 0) (.int .i8 0) (.string ⟨#[]⟩) (.slice none 0 0) rfl
      rw [e10.out]
      exact ret_vt rfl rfl rfl rfl r10 (fam_bad HX2 HK0 (HK1.out.then_ (HK3.out.mono (fun _ _ h => h.elim))) (HK9.out.mono (fun _ _ h => h.elim)) k10 HL0 ⟨bb, rfl, he1⟩)
    | some x =>
      obtain ⟨f, n, k⟩ := x
      have HFH := Lib.hid (fits_here hc1 hpk)
      have HFR : Hid (k ≠ 0 → ∀ t : ByteArray, t.size = k → fits f (beN (bl t))) := Lib.hid (fun h t e => fits_read hc1 hpk h e)
      rw [hpk] at HXP
      dsimp only at HXP
      obtain ⟨fk, HFK⟩ : ∃ fk, Hid (famFn f = fk) := ⟨_, Lib.hid rfl⟩
      have HPK : Hid (∀ W, Calls Tryz.prog 40 #[.pointer (some ⟨b, 0, none⟩), .int .u8 (c : Int)] W (fun e W' => Keep nob W W' ∧ e = .returned (.tuple #[.agg #[.func (Fn.func fk) #[.pointer (some ⟨b, 0, none⟩)] #[], .int .u64 (n : Int), .int .i64 (k : Int)], .bool true]))) := Lib.hid (fun W => by
        have h := pick_ok b c hc1 W
        rw [hpk] at h
        rw [← HFK.out]
        exact h)
      clear hpk
      go_upto_region 6 with (go_at_call 40; go_must (refine (HPK.out _).mono ?_); rintro e w2 ⟨hk2, rfl⟩; have HK2 := Lib.hid hk2; clear hk2)
      obtain ⟨w3, HW3⟩ : ∃ w3, Hid (w2.alloc (.cells #[.func (Fn.func fk) #[.pointer (some ⟨b, 0, none⟩)] #[], .int .u64 (n : Int), .int .i64 (k : Int)] 111) = w3) := ⟨_, Lib.hid rfl⟩
      obtain ⟨b7, HB7⟩ : ∃ b7, Hid (w2.heap.size = b7) := ⟨_, Lib.hid rfl⟩
      have HK3 : Hid (Keep nob w1 w3) := by unfold Hid; rw [← HW3.out]; exact HK2.out.alloc _
      obtain ⟨m0, m1, m2⟩ := new1 w2 (.func (Fn.func fk) #[.pointer (some ⟨b, 0, none⟩)] #[]) (.int .u64 (n : Int)) (.int .i64 (k : Int)) 111
      have mf : (w2.alloc (.cells #[.func (Fn.func fk) #[.pointer (some ⟨b, 0, none⟩)] #[], .int .u64 (n : Int), .int .i64 (k : Int)] 111)).frozen? ⟨w2.heap.size, 1, none⟩ = false := by simp
      rw [HW3.out, HB7.out] at m0 m1 m2 mf
      rw [HW3.out, HB7.out]
      have HR3 : Hid (Rd w3 b s (p + 1) fr op) := Lib.hid (HR1.out.keep HK3.out (fun h => h))
      have HG3 := Lib.hid (HG1.out.keep HK3.out (fun _ h => h.elim))
      have HTW3 : Hid (w3.there b4 0 8) := Lib.hid (HTW1.out.keep' HK3.out)
      have HB0 : Hid (w1.heap.size ≤ b7 ∧ b ≠ b7 ∧ b4 ≠ b7) := by
        have h2 := HK2.out.size
        have h3 := HB7.out
        have h4 := HK1.out.size
        have h5 := HBB.out
        have h6 := HL0.out
        exact Lib.hid ⟨by omega, by omega, by omega⟩
      go_upto_if 39 with (fail)
      go_cut [] from 39 to 67 (fun wc => ∃ N p2, Hid (fits f N) ∧ Hid (X = famR Wd s inner p f N p2) ∧ Hid (Rd wc b s p2 fr op) ∧ Hid (p2 ≤ s.size) ∧ Hid (Keep (fun j => j = b ∨ j = b7) w3 wc) ∧ wc.cell? ⟨b7, 0, none⟩ = some (.func (Fn.func fk) #[.pointer (some ⟨b, 0, none⟩)] #[]) ∧ wc.cell? ⟨b7, 1, none⟩ = some (.int .u64 (N : Int)))
      case first =>
        rcases Nat.eq_zero_or_pos k with hk0 | hk0
        · have HF0 := Lib.hid (HFH.out.2 hk0)
          have HX0 : Hid (X = famR Wd s inner p f n (p + 1)) := Lib.hid (by rw [HXP.out, if_pos hk0])
          subst hk0
          go_wp2_with (fail)
          go_meet
          case rel => exact ⟨n, p + 1, HF0, HX0, HR3, Lib.hid (HP1.out), Lib.hid (Keep.refl _ _), m0, m1⟩
        · have hkd : decide (0 < k) = true := by rw [decide_eq_true_iff]; exact hk0
          have hk8 := HFH.out.1
          have i1 : IntKind.u64.wrap (k : Int) = (k : Int) := by rw [IntKind.wrap_u64]; omega
          have hT2 := take_ok b s (p + 1) fr op k B sa w3 HG3.out HR3.out HP1.out (by have := HS.out; omega) (by omega)
          rw [if_neg (by omega)] at HXP
          cases ht2 : takeR s (p + 1) k with
          | bad c2 q =>
            have HX2 : Hid (X = .bad c2 q) := by
              unfold Hid
              rw [HXP.out, ht2]
              rfl
            rw [ht2] at hT2
            dsimp only at hT2
            have HT2 := Lib.hid hT2
            clear hT2 ht2
            go_wp2_with (go_at_call 39; go_must (refine HT2.out.mono ?_); rintro e w9 ⟨ev, rfl, hk9, he⟩; have HK9 := Lib.hid hk9; clear hk9; obtain ⟨bb, rfl, he1⟩ := he; obtain ⟨v0, v1, v2, v3, v4, v5, v6, v7, ⟨c0, c1, c2, c3, c4, c5, c6, c7⟩, f0, f1, f2, f3, f4, f5, f6, f7⟩ := eight (HTW3.out.keep' HK9.out))
            obtain ⟨w10, e10, r10, k10⟩ := put8 (HTW3.out.keep' HK9.out) Raw.zero (.int .i8 0) (.int .u64 0) (.bool false) (.slice none 0 0) (.int .u64 0) (.int .i8 0) (.string ⟨#[]⟩) (.slice none 0 0) rfl
            rw [e10.out]
            exact ret_vt rfl rfl rfl rfl r10 (fam_bad HX2 HK0 (HK1.out.then_ (HK3.out.mono (fun _ _ h => h.elim))) (HK9.out.mono (fun _ _ h => h.elim)) k10 HL0 ⟨bb, rfl, he1⟩)
          | ok t2 p2 =>
            obtain ⟨e2, rfl, hp2⟩ := take_size ht2
            have HP2 := Lib.hid (hp2 HP1.out)
            have hsz2 : t2.size = k := by rw [e2, ByteArray.size_extract]; have := HP2.out; omega
            have HXF : Hid (X = famR Wd s inner p f (beN (bl t2)) (p + 1 + k)) := by
              unfold Hid
              rw [HXP.out, ht2]
              rfl
            have HF2 := Lib.hid (HFR.out (by omega) t2 hsz2)
            have HSZ2 : Hid (t2.size ≤ 8) := Lib.hid (by omega)
            rw [ht2] at hT2
            dsimp only at hT2
            have HT2 := Lib.hid hT2
            clear hT2 ht2 e2 hp2 hsz2
            go_upto_region 12 with (go_at_call 39; go_must (refine HT2.out.mono ?_); rintro e w4 ⟨rfl, hk4, hr4⟩; have HK4 := Lib.hid hk4; have HR4 := Lib.hid hr4; clear hk4 hr4)
            have y0 := HK4.out.cell m0 (fun e => HB0.out.2.1 e.symm)
            have y1 := HK4.out.cell m1 (fun e => HB0.out.2.1 e.symm)
            have yf : w4.frozen? ⟨b7, 1, none⟩ = false := by
              rw [← mf]
              exact World.frozen?_of_block (HK4.out.block b7 (World.block_lt_of_cell? w3 _ m1) (fun e => HB0.out.2.1 e.symm))
            go_upto_region 13 with (fail)
            obtain ⟨w5, HW5⟩ : ∃ w5, Hid (w4.setCell ⟨b7, 1, none⟩ (.int .u64 0) = w5) := ⟨_, Lib.hid rfl⟩
            have z1 : w5.cell? ⟨b7, 1, none⟩ = some (.int .u64 ((0 : Nat) : Int)) := by rw [← HW5.out]; exact World.cell?_setCell_same _ _ _ y1
            have z0 : w5.cell? ⟨b7, 0, none⟩ = some (.func (Fn.func fk) #[.pointer (some ⟨b, 0, none⟩)] #[]) := by rw [← HW5.out, World.cell?_setCell_other _ _ _ _ (by simp)]; exact y0
            have zf : w5.frozen? ⟨b7, 1, none⟩ = false := by rw [← HW5.out, World.frozen?_setCell]; exact yf
            have HK5 : Hid (Keep (· = b7) w4 w5) := by unfold Hid; rw [← HW5.out]; exact (Keep.refl (· = b7) _).setCell (fun _ => rfl) _
            rw [HW5.out]
            clear y0 y1 yf m0 m1 m2 mf
            go_wp2_with (fail)
            go_loopw [55] (fun u55 wv => ∃ i x : Nat, i ≤ t2.size ∧ u55 = .int .i64 (i : Int) ∧ Hid (beN ((bl t2).take i) = x) ∧ wv.cell? ⟨b7, 1, none⟩ = some (.int .u64 (x : Int)) ∧ wv.frozen? ⟨b7, 1, none⟩ = false ∧ wv.cell? ⟨b7, 0, none⟩ = some (.func (Fn.func fk) #[.pointer (some ⟨b, 0, none⟩)] #[]) ∧ Hid (Keep (· = b7) w5 wv)) (fun u55 _ => t2.size - (intOf u55).toNat)
            case atStart => exact ⟨0, 0, Nat.zero_le _, rfl, Lib.hid rfl, z1, zf, z0, Lib.hid (Keep.refl _ _)⟩
            case round =>
              obtain ⟨i, x, hi, rfl, HBE, x1, xf, x0, HKV⟩ := hrel
              clear z1 zf z0
              rcases Nat.lt_or_ge i t2.size with hlt | hge
              · obtain ⟨y, HY⟩ : ∃ y, Hid ((t2[i]'hlt).toNat = y) := ⟨_, Lib.hid rfl⟩
                have hy : (t2[i]'hlt).toNat = y := HY.out
                have hy8 : y < 256 := by rw [← hy]; exact UInt8.toNat_lt _
                have hx8 : x < 256 ^ i := by
                  have h := beN_fold ((bl t2).take i) 0 (fun z hz => bl_lt t2 z (List.mem_of_mem_take hz))
                  rw [List.length_take, bl_len, Nat.min_eq_left hi, Nat.zero_add, Nat.one_mul] at h
                  rw [← HBE.out]
                  exact h
                have hx7 : x < 256 ^ 7 := Nat.lt_of_lt_of_le hx8 (Nat.pow_le_pow_right (by decide) (by have := HSZ2.out; omega))
                have HBE2 : Hid (beN ((bl t2).take (i + 1)) = x * 256 + y) := by
                  unfold Hid
                  have h := byte_at hlt
                  rw [List.take_add_one, h, beN, List.foldl_append, ← beN, HBE.out, hy]
                  rfl
                obtain ⟨xx, HXX⟩ : ∃ xx, Hid (x * 256 = xx) := ⟨_, Lib.hid rfl⟩
                obtain ⟨xy, HXY⟩ : ∃ xy, Hid (x * 256 + y = xy) := ⟨_, Lib.hid rfl⟩
                rw [HXY.out] at HBE2
                have i2 : IntKind.u64.wrap ((x : Int) * 256) = (xx : Int) := by have := HXX.out; rw [IntKind.wrap_u64]; omega
                have i3 : IntKind.u64.wrap (y : Int) = (y : Int) := by rw [IntKind.wrap_u64]; omega
                have i4 : bits .or .u64 (xx : Int) (y : Int) = (xy : Int) := by
                  have h1 := u64_or_nat xx y (by have := HXX.out; omega) (by omega)
                  have h2 : xx ||| y = xy := by
                    have := Nat.two_pow_add_eq_or_of_lt (i := 8) hy8 x
                    rw [← HXX.out, ← HXY.out, Nat.mul_comm x 256, show (256 : Nat) = 2 ^ 8 by decide, ← this]
                  rw [h2] at h1
                  exact h1
                have hd : decide ((i : Int) < (t2.size : Int)) = true := by rw [decide_eq_true_iff]; omega
                have hq0 : (0 : Int) ≤ (i : Int) := by omega
                have hq1 : (i : Int) < (t2.size : Int) := by omega
                have hxn : x < 72057594037927936 := hx7
                have HXN := Lib.hid hxn
                clear hx8 hx7 hxn
                go_upto_region 16 with (fail)
                go_still_tail 9, (by kernel_rfl)
                change wpList _ _ _ _ _ wr.drew
                have HKD : Hid (Keep (· = b7) w5 (wr.drew.setCell ⟨b7, 1, none⟩ (.int .u64 (xy : Int)))) := Lib.hid ((HKV.out.drew).setCell (fun _ => rfl) _)
                have q1 : wr.drew.cell? ⟨b7, 1, none⟩ = some (.int .u64 (x : Int)) := x1
                have qf : wr.drew.frozen? ⟨b7, 1, none⟩ = false := xf
                have q0 : wr.drew.cell? ⟨b7, 0, none⟩ = some (.func (Fn.func fk) #[.pointer (some ⟨b, 0, none⟩)] #[]) := x0
                have hq1 : (wr.drew.setCell ⟨b7, 1, none⟩ (.int .u64 (xy : Int))).cell? ⟨b7, 1, none⟩ = some (.int .u64 (xy : Int)) := World.cell?_setCell_same _ _ _ q1
                have hqf : (wr.drew.setCell ⟨b7, 1, none⟩ (.int .u64 (xy : Int))).frozen? ⟨b7, 1, none⟩ = false := by rw [World.frozen?_setCell]; exact qf
                have hq0' : (wr.drew.setCell ⟨b7, 1, none⟩ (.int .u64 (xy : Int))).cell? ⟨b7, 0, none⟩ = some (.func (Fn.func fk) #[.pointer (some ⟨b, 0, none⟩)] #[]) := by rw [World.cell?_setCell_other _ _ _ _ (by simp)]; exact q0
                have HQ := Lib.hid (And.intro hq1 (And.intro hqf hq0'))
                clear x1 xf x0 q0 hq1 hqf hq0'
                obtain ⟨wd, HWD⟩ : ∃ wd, Hid (wr.drew = wd) := ⟨_, Lib.hid rfl⟩
                rw [HWD.out] at HKD q1 qf HQ ⊢
                have j1 : IntKind.i64.wrap ((i : Int) + 1) = (i : Int) + 1 := by rw [IntWalk.i64_left, IntWalk.wrap64_in _ ⟨by omega, by have := HSZ2.out; omega⟩]
                go_wp2_with (fail)
                exact ⟨⟨i + 1, xy, hlt, rfl, HBE2, HQ.out.1, HQ.out.2.1, HQ.out.2.2, HKD⟩, by simp [intOf]; omega⟩
              · obtain rfl : i = t2.size := by omega
                have hd : decide ((t2.size : Int) < (t2.size : Int)) = false := by simp
                go_wp2_with (fail)
                go_meet
                case rel =>
                  refine ⟨beN (bl t2), p + 1 + k, HF2, HXF, Lib.hid ((HR4.out.keep HK5.out (fun e => HB0.out.2.1 e)).keep HKV.out (fun e => HB0.out.2.1 e)), HP2, Lib.hid (((HK4.out.mono (fun _ _ h => .inl h)).then_ (HK5.out.mono (fun _ _ h => .inr h))).then_ (HKV.out.mono (fun _ _ h => .inr h))), x0, ?_⟩
                  rw [x1, ← HBE.out, List.take_of_length_le (by rw [bl_len]; exact Nat.le_refl _)]
      case rest =>
        obtain ⟨N, p2, HF, HXF, HRC, HPC, HKC, x0, x1⟩ := hcut
        obtain ⟨wd, HWD⟩ : ∃ wd, Hid (wc = wd) := ⟨_, Lib.hid rfl⟩
        rw [HWD.out] at HRC HKC x0 x1 ⊢
        have c2 := HRC.out.c2
        have f2 := HRC.out.fz 2 (by decide)
        go_upto_region 19 with (fail)
        obtain ⟨w7, HW7⟩ : ∃ w7, Hid (wd.setCell ⟨b, 2, none⟩ (.int .i64 (p : Int)) = w7) := ⟨_, Lib.hid rfl⟩
        have HR7 : Hid (Rd w7 b s p2 p op) := by unfold Hid; rw [← HW7.out]; exact HRC.out.set2 p
        have HK7 : Hid (Keep (· = b) wd w7) := by unfold Hid; rw [← HW7.out]; exact (Keep.refl (· = b) _).setCell (fun _ => rfl) _
        rw [HW7.out]
        have x0 := HK7.out.cell x0 (fun e => HB0.out.2.1 e.symm)
        have x1 := HK7.out.cell x1 (fun e => HB0.out.2.1 e.symm)
        have hcf : ∀ (args : Array Value) (W : World), (callFunc fk args).run Tryz.prog W = .ok (.enter fk args) W := fun args W => by rw [← HFK.out]; exact call_fam f args W
        have HG7 := Lib.hid ((HG3.out.keep HKC.out (fun j e => by have h1 := HB0.out; have h2 := HK1.out.size; have h3 := HBL.out; have h4 := HBB.out; have h5 := HL0.out; rcases e with e | e <;> omega)).keep HK7.out (fun k h => by rw [h]; exact HBL.out))
        have HFA := Lib.hid (fam_ok B sa s inner HS.out f b p2 p op N w7 HG7.out HBL.out HR7.out HIN.out HPC.out HF.out)
        rw [HFK.out, ← HXF.out] at HFA
        have HTW7 : Hid (w7.there b4 0 8) := Lib.hid (HK7.out.there (HKC.out.there HTW3.out (fun e => by have h1 := HB0.out; have h2 := HL0.out; have h3 := HBB.out; rcases e with e | e <;> omega)) (fun e => by have h2 := HL0.out; have h3 := HBB.out; omega))
        have HKA : Hid (Keep (fun j => j = b ∨ j = b7) w0 w7) := Lib.hid ((((HK1.out.then_ (HK3.out.mono (fun _ _ h => h.elim))).mono (fun _ _ h => .inl h)).then_ HKC.out).then_ (HK7.out.mono (fun _ _ h => .inl h)))
        go_wp2_with (fail)
        refine HFA.out.mono ?_
        cases X with
        | ok v q =>
          rintro e w8 ⟨hk8, ⟨fr8, hr8⟩, r, rfl, ht8⟩
          have HK8 := Lib.hid hk8
          have HR8 := Lib.hid hr8
          have HT8 := Lib.hid ht8
          clear hk8 hr8 ht8
          unfold ER
          have th := HK8.out.there HTW7.out (fun e => by have h2 := HL0.out; have h3 := HBB.out; omega)
          obtain ⟨v0, v1, v2, v3, v4, v5, v6, v7, ⟨c0, c1, c2, c3, c4, c5, c6, c7⟩, f0, f1, f2, f3, f4, f5, f6, f7⟩ := eight th
          have HTH := Lib.hid th
          clear th hcf
          go_wp2_with (fail)
          obtain ⟨w10, e10, r10, k10⟩ := put8 HTH.out r (.int .i8 (r.kind : Int)) (.int .u64 (r.n : Int)) (.bool r.neg) (.slice r.mA r.mL r.mC) (.int .u64 (r.bits : Int)) (.int .i8 r.ext) (.string r.text) (.slice r.kA r.kL r.kC) rfl
          rw [e10.out]
          have h1 := HL0.out
          have h2 := HBB.out
          have h3 := HB0.out
          have h4 := HK0.out.size
          have h5 := HK1.out.size
          have h6 := HKA.out.size
          refine ret_vt rfl rfl rfl rfl r10 ⟨((((HK0.out.mono (fun _ _ h => h.elim)).trans HKA.out (fun j h7 e => by rcases e with e | e <;> omega)).then_ HK8.out).trans k10 (fun j h7 e => by omega)), ⟨_, HR8.out.keep k10 (fun e => by omega)⟩, r, rfl, ?_⟩
          exact Tr.mono (fun k _ hk => by omega) _ _ (Tr.keep k10 (fun k hk e => by omega) _ _ HT8.out)
        | bad cc q =>
          rintro e w8 ⟨ev, rfl, hk8, he⟩
          have HK8 := Lib.hid hk8
          clear hk8
          obtain ⟨bb, rfl, he1⟩ := he
          simp only [ER, Raw.zero]
          have th := HK8.out.there HTW7.out (fun e => by have h2 := HL0.out; have h3 := HBB.out; omega)
          obtain ⟨v0, v1, v2, v3, v4, v5, v6, v7, ⟨c0, c1, c2, c3, c4, c5, c6, c7⟩, f0, f1, f2, f3, f4, f5, f6, f7⟩ := eight th
          have HTH := Lib.hid th
          clear th hcf
          go_wp2_with (fail)
          obtain ⟨w10, e10, r10, k10⟩ := put8 HTH.out Raw.zero (.int .i8 0) (.int .u64 0) (.bool false) (.slice none 0 0) (.int .u64 0) (.int .i8 0) (.string ⟨#[]⟩) (.slice none 0 0) rfl
          rw [e10.out]
          have h3 := HB0.out
          have h5 := HK1.out.size
          exact ret_vt rfl rfl rfl rfl r10 (fam_bad (Lib.hid rfl) HK0 (w8 := w7) (HKA.out.mono (fun k h3 h4 => by rcases h4 with h4 | h4 <;> omega)) HK8.out k10 HL0 ⟨bb, rfl, he1⟩)
end Go.Proofs.YtiemkfibpfndaaaGreatDoor

/- What is read is of a size that memory has; items at any depth. -/
namespace Go.Proofs.YtiemkfibpfndaaaGreatDoor
open Go.RowKit

theorem sm_mk {k n : Nat} {neg : Bool} {mag : List Nat} {bits : Nat} {ext : Int} {text : ByteArray} {kids : List V} (h1 : mag.length ≤ 1000000000) (h2 : kids.length ≤ 1000000000) (h3 : bits < 18446744073709551616) (h4 : SmL kids) : Sm (.mk k n neg mag bits ext text kids) := by
  unfold Sm
  exact ⟨h1, h2, h3, h4⟩
theorem smL_nil : SmL [] := by
  unfold SmL
  trivial
theorem sm_int {neg : Bool} {mag : List Nat} (h : mag.length ≤ 1000000000) : Sm (V.int neg mag) := sm_mk h (Nat.zero_le _) (by decide) smL_nil
theorem sm_flat {k n : Nat} {neg : Bool} {bits : Nat} {ext : Int} {text : ByteArray} (h : bits < 18446744073709551616) : Sm (.mk k n neg [] bits ext text []) := sm_mk (Nat.zero_le _) (Nat.zero_le _) h smL_nil
theorem cutL_le (l : List Nat) : (cutL l).length ≤ l.length := by rw [cutL_len]; exact cutN_le _ _
theorem ofV_sm {F X x : Nat} {L : Int} (hF : F ≤ 52) (hL : -1074 ≤ L) (hX : 2 ^ X ≤ 2048) (hL0 : L ≤ 0) (hE : L + ((2 ^ X : Nat) : Int) ≤ 1000) : Sm (ofV F L X x) := by
  unfold ofV intN to64N
  cases hp : partsN F L X x with
  | none =>
    dsimp only
    refine sm_flat ?_
    split
    · unfold signed64N; split <;> decide
    · decide
  | some y =>
    obtain ⟨neg, m, e⟩ := y
    obtain ⟨h1, h2, h3⟩ := parts_bd hF hL hX hL0 hE hp
    dsimp only
    by_cases he : e < 0
    · rw [if_pos he]
      exact sm_flat (exact64_lt h1 h2)
    · rw [if_neg he]
      obtain ⟨K, hK⟩ : ∃ K : Nat, K = 1100 := ⟨_, rfl⟩
      obtain ⟨f, hf⟩ : ∃ f : Nat, f = 37 := ⟨_, rfl⟩
      refine sm_int (Nat.le_trans (numL_len_le (f := f) ?_) (by omega))
      have h4 : 2 ^ e.toNat ≤ 2 ^ K := Nat.pow_le_pow_right (by decide) (by omega)
      have h5 : m * 2 ^ e.toNat ≤ 2 ^ 53 * 2 ^ K := Nat.mul_le_mul (by omega) h4
      rw [← Nat.pow_add] at h5
      rw [show (4294967296 : Nat) = 2 ^ 32 by decide, ← Nat.pow_mul]
      exact Nat.lt_of_le_of_lt h5 (Nat.pow_lt_pow_right (by decide) (by omega))
theorem two_sm (x : Nat) : (cutL (cutL (two32 x))).length ≤ 1000000000 := Nat.le_trans (cutL_le _) (Nat.le_trans (cutL_le _) (by simp [two32]))
theorem twos_sm (t : ByteArray) (h : t.size ≤ 1000000000) : Sm (twosV t) := by
  refine sm_int (Nat.le_trans (cutL_le _) (Nat.le_trans (cutL_le _) ?_))
  rw [twoL, limbG_len, List.length_replicate]
  omega
/-- what a reading of items is known to do -/
def Does (s : ByteArray) (it : Nat → R V) : Prop := ∀ p v q, p ≤ s.size → it p = .ok v q → (p < q ∧ q ≤ s.size) ∧ Sm v
theorem rounds_sm {s : ByteArray} {it : Nat → R V} (hg : Does s it) : ∀ (n p : Nat) (acc l : List V) (q : Nat), p ≤ s.size → acc.length ≤ p → SmL acc → roundsN it n p acc = .ok l q → l.length ≤ s.size ∧ SmL l
  | 0, p, acc, l, q, hp, ha, hs, h => by
    rw [roundsN] at h
    cases h
    exact ⟨by omega, hs⟩
  | n + 1, p, acc, l, q, hp, ha, hs, h => by
    rw [roundsN] at h
    cases hi : it p with
    | bad c x => rw [hi] at h; cases h
    | ok v x =>
      rw [hi] at h
      obtain ⟨⟨h1, h2⟩, h3⟩ := hg p v x hp hi
      exact rounds_sm hg n x (acc ++ [v]) l q h2 (by rw [List.length_append, List.length_singleton]; omega) (SmL.app hs ⟨h3, smL_nil⟩) h
theorem pairs_sm {s : ByteArray} {it : Nat → R V} (hg : Does s it) : ∀ (n p : Nat) (acc l : List V) (q : Nat), p ≤ s.size → acc.length ≤ p → SmL acc → pairsN Wd it n p acc = .ok l q → l.length ≤ s.size ∧ SmL l
  | 0, p, acc, l, q, hp, ha, hs, h => by
    rw [pairsN] at h
    cases h
    exact ⟨by omega, hs⟩
  | n + 1, p, acc, l, q, hp, ha, hs, h => by
    rw [pairsN] at h
    cases hi : it p with
    | bad c x => rw [hi] at h; cases h
    | ok key x =>
      rw [hi] at h
      obtain ⟨⟨h1, h2⟩, h3⟩ := hg p key x hp hi
      dsimp only [R.bind] at h
      split at h
      · cases h
      · cases hi2 : it x with
        | bad c y => rw [hi2] at h; cases h
        | ok v y =>
          rw [hi2] at h
          obtain ⟨⟨h4, h5⟩, h6⟩ := hg x v y h2 hi2
          exact pairs_sm hg n y _ l q h5 (by rw [insN_len]; omega) (SmL.ins hs _ h3 h6) h
theorem fam_sm {s : ByteArray} (hs : s.size ≤ 1000000000) {inner : Option (Nat → R V)} (hg : ∀ it, inner = some it → Does s it) (fr : Nat) (f : Fam) (n p : Nat) (hp : p ≤ s.size) {v : V} {q : Nat} (h : famR Wd s inner fr f n p = .ok v q) : Sm v := by
  cases f <;> simp only [famR] at h
  case whole => cases h; exact sm_int (two_sm n)
  case below => cases h; exact sm_int (two_sm n)
  case word =>
    split at h <;> cases h <;> exact sm_flat (by decide)
  case single => cases h; exact ofV_sm (by decide) (by decide) (by decide) (by decide) (by decide)
  case double => cases h; exact ofV_sm (by decide) (by decide) (by decide) (by decide) (by decide)
  case text =>
    cases ht : textR s p n with
    | ok t x => rw [ht] at h; cases h; exact sm_flat (by decide)
    | bad c x => rw [ht] at h; cases h
  case bytes =>
    cases ht : takeR s p n with
    | ok t x => rw [ht] at h; cases h; exact sm_flat (by decide)
    | bad c x => rw [ht] at h; cases h
  case ext =>
    cases ht : takeR s p 1 with
    | bad c x => rw [ht] at h; cases h
    | ok e x =>
      rw [ht] at h
      dsimp only [R.bind] at h
      cases ht2 : takeR s x n with
      | ok t y => rw [ht2] at h; cases h; exact sm_flat (by decide)
      | bad c y => rw [ht2] at h; cases h
  case signed =>
    cases ht : takeR s p n with
    | ok t x =>
      rw [ht] at h
      cases h
      obtain ⟨e, _, _⟩ := take_size ht
      exact twos_sm t (by rw [e, ByteArray.size_extract]; omega)
    | bad c x => rw [ht] at h; cases h
  case list =>
    cases inner with
    | none => cases h
    | some it =>
      dsimp only at h
      cases hr : roundsN it n p [] with
      | bad c x => rw [hr] at h; cases h
      | ok l x =>
        rw [hr] at h
        cases h
        obtain ⟨h1, h2⟩ := rounds_sm (hg it rfl) n p [] l q hp (Nat.zero_le _) smL_nil hr
        exact sm_mk (Nat.zero_le _) (by omega) (by decide) h2
  case pairs =>
    cases inner with
    | none => cases h
    | some it =>
      dsimp only at h
      cases hr : pairsN Wd it n p [] with
      | bad c x => rw [hr] at h; cases h
      | ok l x =>
        rw [hr] at h
        cases h
        obtain ⟨h1, h2⟩ := pairs_sm (hg it rfl) n p [] l q hp (Nat.zero_le _) smL_nil hr
        exact sm_mk (Nat.zero_le _) (by omega) (by decide) h2
theorem itemF_sm {s : ByteArray} (hs : s.size ≤ 1000000000) {inner : Option (Nat → R V)} (hg : ∀ it, inner = some it → Does s it) {p : Nat} (hp : p ≤ s.size) {v : V} {q : Nat} (h : itemF Wd s inner p = .ok v q) : Sm v := by
  unfold itemF at h
  cases ht : takeR s p 1 with
  | bad c x => rw [ht] at h; cases h
  | ok t p1 =>
    rw [ht] at h
    dsimp only [R.bind] at h
    obtain ⟨_, _, h1⟩ := take_size ht
    have h1 := h1 hp
    cases hk : pickN ((bl t).headD 0) with
    | none => rw [hk] at h; cases h
    | some y =>
      obtain ⟨f, n, k⟩ := y
      rw [hk] at h
      dsimp only at h
      split at h
      · exact fam_sm hs hg p f n p1 h1 h
      · cases ht2 : takeR s p1 k with
        | bad c x => rw [ht2] at h; cases h
        | ok t2 p2 =>
          rw [ht2] at h
          obtain ⟨_, _, h2⟩ := take_size ht2
          exact fam_sm hs hg p f _ p2 (h2 h1) h
theorem item_does {s : ByteArray} (hs : s.size ≤ 1000000000) : ∀ d, Does s (itemN Wd s d)
  | 0 => fun p v q hp h => by
    have h1 := itemN_ge Wd s 0 p
    have h2 := itemN_le Wd s 0 p hp
    rw [h] at h1 h2
    exact ⟨⟨h1, h2⟩, itemF_sm (inner := none) hs (fun _ e => by cases e) hp h⟩
  | d + 1 => fun p v q hp h => by
    have h1 := itemN_ge Wd s (d + 1) p
    have h2 := itemN_le Wd s (d + 1) p hp
    rw [h] at h1 h2
    exact ⟨⟨h1, h2⟩, itemF_sm (inner := some (itemN Wd s d)) hs (fun it e => by cases e; exact item_does hs d) hp h⟩
/-- an item, at any depth -/
theorem item_ok (B : Nat) (sa : Nat → Addr) (s : ByteArray) (hs : s.size ≤ 1000000000) : ∀ d, ItemC B sa s (itemN Wd s d) d
  | 0 => fun b p fr op w g hB hr hop hp => item_walk B sa s none hs b p fr op w g hB hr (show op = 128 by omega) hp
  | d + 1 => fun b p fr op w g hB hr hop hp => item_walk B sa s (some (itemN Wd s d)) hs b p fr op w g hB hr ⟨d, hop, item_ok B sa s hs d, item_does hs d⟩ hp
end Go.Proofs.YtiemkfibpfndaaaGreatDoor

/- packread.Next at 0, Read. -/
namespace Go.Proofs.YtiemkfibpfndaaaGreatDoor
open Go.RowKit

theorem ret_vtt {fn : Func} {p u u2 : Tmp} {R : Ending → World → Prop} {a : Act} {w : World} {b : Nat} {r : Raw} {v v2 : Value} (h : fn.results = #[.cell p 55, .tmp u, .tmp u2]) (hp : a.tmps.getD p undef = .pointer (some ⟨b, 0, none⟩)) (hv : a.tmps.getD u undef = v) (hv2 : a.tmps.getD u2 undef = v2) (hd : a.defers = [])
    (hr : w.rangeAt b 0 (ER.cells r)) (hR : R (.returned (.tuple #[ER.val r, v, v2])) w) : bodyPost Tryz.prog fn R .ret a w := by
  refine bodyPost_ret (v := .tuple #[ER.val r, v, v2]) ?_ hd hR
  have hl := load_val hr
  have hp' : a.tmps[p]?.getD undef = .pointer (some ⟨b, 0, none⟩) := by rw [← hp]; simp
  have hv' : a.tmps[u]?.getD undef = v := by rw [← hv]; simp
  have hv2' : a.tmps[u2]?.getD undef = v2 := by rw [← hv2]; simp
  simp [results, h, hp', hv', hv2', asAddr, hl]
/-- what Next answers -/
def NextPost (sa : Nat → Addr) (w : World) (x : R V) (e : Ending) (w' : World) : Prop := match x with
  | .ok v q => Keep nob w w' ∧ ∃ r, e = .returned (.tuple #[ER.val r, .int .i64 (q : Int), .nilIface]) ∧ Tr w' (fun k => w.heap.size ≤ k) r v
  | .bad c q => ∃ ev, e = .returned (.tuple #[ER.val Raw.zero, .int .i64 0, ev]) ∧ Keep nob w w' ∧ FErr sa w' (fun k => w.heap.size ≤ k) ev c q
theorem rd_new (w : World) (s : ByteArray) (p : Nat) (T : TypeId) : Rd (w.alloc (.cells #[.string s, .int .i64 (p : Int), .int .i64 0, .int .i64 0] T)) w.heap.size s p 0 0 :=
  ⟨by simp, by simp, by simp, by simp, fun i _ => by simp⟩
set_option maxRecDepth 100000 in
theorem next_ok (s : ByteArray) (p : Nat) (hp : p ≤ s.size) (hs : s.size ≤ 1048576) (B : Nat) (sa : Nat → Addr) (w : World) (g : GL B sa w) : Calls Tryz.prog 14 #[.string s, .int .i64 (p : Int)] w (NextPost sa w (itemN Wd s 128 p)) := by
  obtain ⟨w0, b4, HW0, HB4, HK0, HT0, HL0⟩ := start w
  have HG0 := Lib.hid (g.keep HK0.out (fun _ h => h.elim))
  have HS := Lib.hid hs
  have HPL := Lib.hid hp
  have hd0 : decide ((p : Int) < 0) = false := by rw [decide_eq_false_iff_not]; omega
  have hd1 : decide ((p : Int) > (s.size : Int)) = false := by rw [decide_eq_false_iff_not]; omega
  have hn1 : decide (s.size < p) = false := by rw [decide_eq_false_iff_not]; omega
  have hd2 : decide ((s.size : Int) > 1048576) = false := by rw [decide_eq_false_iff_not]; omega
  obtain ⟨X, HX⟩ : ∃ X, Hid (itemN Wd s 128 p = X) := ⟨_, Lib.hid rfl⟩
  rw [HX.out]
  clear g hs hp
  go_enter Tryz.func14, Tryz.ntmps14
  go_upto_region 1 with (fail)
  rw [HW0.out, HB4.out]
  go_upto_region 6 with (fail)
  obtain ⟨w1, HW1⟩ : ∃ w1, Hid (w0.alloc (.cells #[.string s, .int .i64 (p : Int), .int .i64 0, .int .i64 0] 91) = w1) := ⟨_, Lib.hid rfl⟩
  obtain ⟨b1, HB1⟩ : ∃ b1, Hid (w0.heap.size = b1) := ⟨_, Lib.hid rfl⟩
  have HR1 : Hid (Rd w1 b1 s p 0 0) := by unfold Hid; rw [← HW1.out, ← HB1.out]; exact rd_new w0 s p _
  have HK1 : Hid (Keep nob w0 w1) := by unfold Hid; rw [← HW1.out]; exact (Keep.refl _ _).alloc _
  have HG1 := Lib.hid (HG0.out.keep HK1.out (fun _ h => h.elim))
  have HBL : Hid (B ≤ b1) := by unfold Hid; rw [← HB1.out]; exact HG0.out.le
  have HTW1 : Hid (w1.there b4 0 8) := Lib.hid (HT0.out.keep' HK1.out)
  have HI := Lib.hid (item_ok B sa s (by have := HS.out; omega) 128 b1 p 0 0 w1 HG1.out HBL.out HR1.out rfl HPL.out)
  rw [HX.out] at HI
  rw [HW1.out, HB1.out]
  clear hd0 hd1 hn1 hd2
  cases X with
  | bad c q =>
    have HJ : Hid (Calls Tryz.prog 26 #[.pointer (some ⟨b1, 0, none⟩)] w1 (fun e w' => ∃ ev, e = .returned (.tuple #[.agg #[.int .i8 0, .int .u64 0, .bool false, .slice none 0 0, .int .u64 0, .int .i8 0, .string ⟨#[]⟩, .slice none 0 0], ev]) ∧ Keep (· = b1) w1 w' ∧ FErr sa w' (fun k => w1.heap.size ≤ k) ev c q)) := HI
    go_wp2_with (go_at_call 26; go_must (refine HJ.out.mono ?_); rintro e w9 ⟨ev, rfl, hk9, he⟩; have HK9 := Lib.hid hk9; clear hk9; obtain ⟨bb, rfl, he1⟩ := he; have HT9 : Hid (w9.there b4 0 8) := Lib.hid (HK9.out.there HTW1.out (fun e => by have h1 := HL0.out; have h2 := HB1.out; omega)); obtain ⟨v0, v1, v2, v3, v4, v5, v6, v7, ⟨c0, c1, c2, c3, c4, c5, c6, c7⟩, f0, f1, f2, f3, f4, f5, f6, f7⟩ := eight (HT9.out.keep' ((Keep.refl nob w9).alloc (.cells #[.int .i8 0, .int .u64 0, .bool false, .slice none 0 0, .int .u64 0, .int .i8 0, .string ⟨#[]⟩, .slice none 0 0] 55))))
    obtain ⟨w8, HW8⟩ : ∃ w8, Hid (w9.alloc (.cells #[.int .i8 0, .int .u64 0, .bool false, .slice none 0 0, .int .u64 0, .int .i8 0, .string ⟨#[]⟩, .slice none 0 0] 55) = w8) := ⟨_, Lib.hid rfl⟩
    have hk8 : Keep nob w9 w8 := by rw [← HW8.out]; exact (Keep.refl _ _).alloc _
    rw [HW8.out]
    obtain ⟨w10, e10, r10, k10⟩ := put8 (HT9.out.keep' hk8) Raw.zero (.int .i8 0) (.int .u64 0) (.bool false) (.slice none 0 0) (.int .u64 0) (.int .i8 0) (.string ⟨#[]⟩) (.slice none 0 0) rfl
    rw [e10.out]
    have h1 := HL0.out
    have h2 := HB1.out
    have h3 := HK1.out.size
    have h4 := HK9.out.size
    have h5 := HK0.out.size
    refine ret_vtt rfl rfl rfl rfl rfl r10 ⟨_, rfl, (((HK0.out.then_ HK1.out).trans HK9.out (fun j h6 e => by omega)).then_ hk8).trans k10 (fun j h6 e => by omega), ?_⟩
    exact (((FErr.keep (S := nob) ⟨bb, rfl, he1⟩ hk8 (fun _ _ h => h)).keep k10 (fun j hj e => by omega)).mono (fun j _ hj => by omega))
  | ok v q =>
    have HJ : Hid (Calls Tryz.prog 26 #[.pointer (some ⟨b1, 0, none⟩)] w1 (fun e w' => Keep (· = b1) w1 w' ∧ (∃ fr2, Rd w' b1 s q fr2 0) ∧ ∃ r, e = .returned (.tuple #[ER.val r, .nilIface]) ∧ Tr w' (fun k => w1.heap.size ≤ k) r v)) := HI
    go_upto_region 7 with (go_at_call 26; go_must (refine HJ.out.mono ?_); rintro e w3 ⟨hk3, ⟨fr2, hr3⟩, r, rfl, ht3⟩; have HK3 := Lib.hid hk3; have HR3 := Lib.hid hr3; have HT3 := Lib.hid ht3; clear hk3 hr3 ht3; unfold ER)
    obtain ⟨w4, HW4⟩ : ∃ w4, Hid (w3.alloc (.cells (ER.cells r).toArray 55) = w4) := ⟨_, Lib.hid rfl⟩
    obtain ⟨b8, HB8⟩ : ∃ b8, Hid (w3.heap.size = b8) := ⟨_, Lib.hid rfl⟩
    have HK4 : Hid (Keep nob w3 w4) := by unfold Hid; rw [← HW4.out]; exact (Keep.refl _ _).alloc _
    have hrn := range_new w3 r 55
    rw [HW4.out, HB8.out] at hrn
    rw [show w3.alloc (.cells #[.int .i8 (r.kind : Int), .int .u64 (r.n : Int), .bool r.neg, .slice r.mA r.mL r.mC, .int .u64 (r.bits : Int), .int .i8 r.ext, .string r.text, .slice r.kA r.kL r.kC] 55) = w4 from HW4.out, HB8.out]
    obtain ⟨e0, e1, e2, e3, e4, e5, e6, e7⟩ := cells_val hrn
    have HR4 : Hid (Rd w4 b1 s q fr2 0) := Lib.hid (HR3.out.keep HK4.out (fun h => h))
    have HT4 : Hid (w4.there b4 0 8) := Lib.hid ((HK3.out.there HTW1.out (fun e => by have h1 := HL0.out; have h2 := HB1.out; omega)).keep' HK4.out)
    have HTR : Hid (Tr w4 (fun k => w1.heap.size ≤ k) r v) := Lib.hid (Tr.keep HK4.out (nobD _) _ _ HT3.out)
    have p1 := HR4.out.c1
    have n8 : ¬ b8 = b4 := by have h1 := HL0.out; have h2 := HB8.out; have h3 := HK3.out.size; have h4 := HK1.out.size; omega
    have n1 : ¬ b1 = b4 := by have h1 := HL0.out; have h2 := HB1.out; omega
    have n8' : ¬ b4 = b8 := fun e => n8 e.symm
    have n1' : ¬ b4 = b1 := fun e => n1 e.symm
    obtain ⟨v0, v1, v2, v3, v4, v5, v6, v7, ⟨c0, c1, c2, c3, c4, c5, c6, c7⟩, f0, f1, f2, f3, f4, f5, f6, f7⟩ := eight HT4.out
    clear hrn
    go_upto_region 9 with (fail)
    go_region_held3 (fun w' => w'.cell? ⟨b1, 1, none⟩ = some (.int .i64 (q : Int)) ∧ w'.cell? ⟨b8, 0, none⟩ = some (.int .i8 (r.kind : Int)) ∧ w'.cell? ⟨b8, 1, none⟩ = some (.int .u64 (r.n : Int)) ∧ w'.cell? ⟨b8, 2, none⟩ = some (.bool r.neg) ∧ w'.cell? ⟨b8, 3, none⟩ = some (.slice r.mA r.mL r.mC) ∧ w'.cell? ⟨b8, 4, none⟩ = some (.int .u64 (r.bits : Int)) ∧ w'.cell? ⟨b8, 5, none⟩ = some (.int .i8 r.ext) ∧ w'.cell? ⟨b8, 6, none⟩ = some (.string r.text) ∧ w'.cell? ⟨b8, 7, none⟩ = some (.slice r.kA r.kL r.kC)) (go_keep) (fail)
    obtain ⟨w10, e10, r10, k10⟩ := put8 HT4.out r (.int .i8 (r.kind : Int)) (.int .u64 (r.n : Int)) (.bool r.neg) (.slice r.mA r.mL r.mC) (.int .u64 (r.bits : Int)) (.int .i8 r.ext) (.string r.text) (.slice r.kA r.kL r.kC) rfl
    rw [e10.out]
    obtain ⟨w11, HW11⟩ : ∃ w11, Hid (w10.drew = w11) := ⟨_, Lib.hid rfl⟩
    have k11 : Keep nob w10 w11 := by rw [← HW11.out]; exact (Keep.refl nob w10).drew
    rw [HW11.out]
    have h1 := HL0.out
    have h2 := HB1.out
    have h3 := HK1.out.size
    have h5 := HK0.out.size
    clear p1 c0 c1 c2 c3 c4 c5 c6 c7 f0 f1 f2 f3 f4 f5 f6 f7 e0 e1 e2 e3 e4 e5 e6 e7
    go_wp2_with (fail)
    refine ret_vtt rfl rfl rfl rfl rfl (range_keep k11 r10) ⟨((((HK0.out.then_ HK1.out).trans HK3.out (fun j h6 e => by omega)).then_ HK4.out).trans k10 (fun j h6 e => by omega)).then_ k11, r, rfl, ?_⟩
    exact Tr.mono (fun k _ hk => by omega) _ _ (Tr.keep k11 (nobD _) _ _ (Tr.keep k10 (fun k hk e => by omega) _ _ HTR.out))
/-- what Read answers -/
def ReadPost (sa : Nat → Addr) (w : World) (x : R V) (e : Ending) (w' : World) : Prop := match x with
  | .ok v _ => Keep nob w w' ∧ ∃ r, e = .returned (.tuple #[ER.val r, .nilIface]) ∧ Tr w' (fun k => w.heap.size ≤ k) r v
  | .bad c q => ∃ ev, e = .returned (.tuple #[ER.val Raw.zero, ev]) ∧ Keep nob w w' ∧ FErr sa w' (fun k => w.heap.size ≤ k) ev c q
set_option maxRecDepth 100000 in
theorem read_ok (s : ByteArray) (hs : s.size ≤ 1048576) (B : Nat) (sa : Nat → Addr) (w : World) (g : GL B sa w) : Calls Tryz.prog 9 #[.string s] w (ReadPost sa w (readN Wd s)) := by
  obtain ⟨w0, b2, HW0, HB2, HK0, HT0, HL0⟩ := start w
  have HG0 := Lib.hid (g.keep HK0.out (fun _ h => h.elim))
  have HS := Lib.hid hs
  have HN := Lib.hid (next_ok s 0 (Nat.zero_le _) hs B sa w0 HG0.out)
  have hge := itemN_ge Wd s 128 0
  have hle := itemN_le Wd s 128 0 (Nat.zero_le _)
  unfold readN
  clear g hs
  cases hX : itemN Wd s 128 0 with
  | bad c q =>
    rw [hX] at HN
    have HJ : Hid (Calls Tryz.prog 14 #[.string s, .int .i64 0] w0 (fun e w' => ∃ ev, e = .returned (.tuple #[.agg #[.int .i8 0, .int .u64 0, .bool false, .slice none 0 0, .int .u64 0, .int .i8 0, .string ⟨#[]⟩, .slice none 0 0], .int .i64 0, ev]) ∧ Keep nob w0 w' ∧ FErr sa w' (fun k => w0.heap.size ≤ k) ev c q)) := HN
    clear hge hle hX
    dsimp only [R.bind]
    go_enter Tryz.func9, Tryz.ntmps9
    go_upto_region 1 with (fail)
    rw [HW0.out, HB2.out]
    go_wp2_with (go_at_call 14; go_must (refine HJ.out.mono ?_); rintro e w9 ⟨ev, rfl, hk9, he⟩; have HK9 := Lib.hid hk9; clear hk9; obtain ⟨bb, rfl, he1⟩ := he; have HT9 : Hid (w9.there b2 0 8) := Lib.hid (HT0.out.keep' HK9.out); obtain ⟨v0, v1, v2, v3, v4, v5, v6, v7, ⟨c0, c1, c2, c3, c4, c5, c6, c7⟩, f0, f1, f2, f3, f4, f5, f6, f7⟩ := eight (HT9.out.keep' ((Keep.refl nob w9).alloc (.cells #[.int .i8 0, .int .u64 0, .bool false, .slice none 0 0, .int .u64 0, .int .i8 0, .string ⟨#[]⟩, .slice none 0 0] 55))))
    obtain ⟨w8, HW8⟩ : ∃ w8, Hid (w9.alloc (.cells #[.int .i8 0, .int .u64 0, .bool false, .slice none 0 0, .int .u64 0, .int .i8 0, .string ⟨#[]⟩, .slice none 0 0] 55) = w8) := ⟨_, Lib.hid rfl⟩
    have hk8 : Keep nob w9 w8 := by rw [← HW8.out]; exact (Keep.refl _ _).alloc _
    rw [HW8.out]
    obtain ⟨w10, e10, r10, k10⟩ := put8 (HT9.out.keep' hk8) Raw.zero (.int .i8 0) (.int .u64 0) (.bool false) (.slice none 0 0) (.int .u64 0) (.int .i8 0) (.string ⟨#[]⟩) (.slice none 0 0) rfl
    rw [e10.out]
    have h1 := HL0.out
    have h5 := HK0.out.size
    refine ret_vt rfl rfl rfl rfl r10 ⟨_, rfl, ((HK0.out.then_ HK9.out).then_ hk8).trans k10 (fun j h6 e => by omega), ?_⟩
    exact (((FErr.keep (S := nob) ⟨bb, rfl, he1⟩ hk8 (fun _ _ h => h)).keep k10 (fun j hj e => by omega)).mono (fun j _ hj => by omega))
  | ok v q =>
    rw [hX] at HN hge hle
    have HJ : Hid (Calls Tryz.prog 14 #[.string s, .int .i64 0] w0 (fun e w' => Keep nob w0 w' ∧ ∃ r, e = .returned (.tuple #[ER.val r, .int .i64 (q : Int), .nilIface]) ∧ Tr w' (fun k => w0.heap.size ≤ k) r v)) := HN
    have hq : q ≤ s.size := hle
    clear hge hle hX
    dsimp only [R.bind]
    go_enter Tryz.func9, Tryz.ntmps9
    go_upto_region 1 with (fail)
    rw [HW0.out, HB2.out]
    go_upto_region 2 with (go_at_call 14; go_must (refine HJ.out.mono ?_); rintro e w3 ⟨hk3, r, rfl, ht3⟩; have HK3 := Lib.hid hk3; have HT3 := Lib.hid ht3; clear hk3 ht3; unfold ER)
    obtain ⟨w4, HW4⟩ : ∃ w4, Hid (w3.alloc (.cells (ER.cells r).toArray 55) = w4) := ⟨_, Lib.hid rfl⟩
    obtain ⟨b8, HB8⟩ : ∃ b8, Hid (w3.heap.size = b8) := ⟨_, Lib.hid rfl⟩
    have HK4 : Hid (Keep nob w3 w4) := by unfold Hid; rw [← HW4.out]; exact (Keep.refl _ _).alloc _
    have hrn := range_new w3 r 55
    rw [HW4.out, HB8.out] at hrn
    rw [show w3.alloc (.cells #[.int .i8 (r.kind : Int), .int .u64 (r.n : Int), .bool r.neg, .slice r.mA r.mL r.mC, .int .u64 (r.bits : Int), .int .i8 r.ext, .string r.text, .slice r.kA r.kL r.kC] 55) = w4 from HW4.out, HB8.out]
    have HT4 : Hid (w4.there b2 0 8) := Lib.hid ((HT0.out.keep' HK3.out).keep' HK4.out)
    have HTR : Hid (Tr w4 (fun k => w0.heap.size ≤ k) r v) := Lib.hid (Tr.keep HK4.out (nobD _) _ _ HT3.out)
    have HG4 := Lib.hid ((HG0.out.keep HK3.out (fun _ h => h.elim)).keep HK4.out (fun _ h => h.elim))
    have h1 := HL0.out
    have h5 := HK0.out.size
    by_cases hlt : q < s.size
    · rw [if_pos hlt]
      have hd : decide ((q : Int) < (s.size : Int)) = true := by rw [decide_eq_true_iff]; omega
      go_wp2_with (go_at_call 16; go_must (refine (bad_ok q B sa _ HG4.out).mono ?_); rintro e w9 ⟨⟨ev, rfl, he⟩, hk9⟩; have HK9 := Lib.hid hk9; clear hk9; obtain ⟨bb, rfl, he1⟩ := he; obtain ⟨v0, v1, v2, v3, v4, v5, v6, v7, ⟨c0, c1, c2, c3, c4, c5, c6, c7⟩, f0, f1, f2, f3, f4, f5, f6, f7⟩ := eight (HT4.out.keep' HK9.out))
      obtain ⟨w10, e10, r10, k10⟩ := put8 (HT4.out.keep' HK9.out) Raw.zero (.int .i8 0) (.int .u64 0) (.bool false) (.slice none 0 0) (.int .u64 0) (.int .i8 0) (.string ⟨#[]⟩) (.slice none 0 0) rfl
      rw [e10.out]
      have h6 := HK3.out.size
      have h7 := HK4.out.size
      refine ret_vt rfl rfl rfl rfl r10 ⟨_, rfl, (((HK0.out.then_ HK3.out).then_ HK4.out).then_ HK9.out).trans k10 (fun j h6 e => by omega), ?_⟩
      exact ((FErr.keep ⟨bb, rfl, he1⟩ k10 (fun j hj e => by omega)).mono (fun j _ hj => by omega))
    · rw [if_neg hlt]
      have hd : decide ((q : Int) < (s.size : Int)) = false := by rw [decide_eq_false_iff_not]; omega
      obtain ⟨e0, e1, e2, e3, e4, e5, e6, e7⟩ := cells_val hrn
      obtain ⟨v0, v1, v2, v3, v4, v5, v6, v7, ⟨c0, c1, c2, c3, c4, c5, c6, c7⟩, f0, f1, f2, f3, f4, f5, f6, f7⟩ := eight HT4.out
      go_wp2_with (fail)
      obtain ⟨w10, e10, r10, k10⟩ := put8 HT4.out r (.int .i8 (r.kind : Int)) (.int .u64 (r.n : Int)) (.bool r.neg) (.slice r.mA r.mL r.mC) (.int .u64 (r.bits : Int)) (.int .i8 r.ext) (.string r.text) (.slice r.kA r.kL r.kC) rfl
      rw [e10.out]
      refine ret_vt rfl rfl rfl rfl r10 ⟨((HK0.out.then_ HK3.out).then_ HK4.out).trans k10 (fun j h6 e => by omega), r, rfl, ?_⟩
      exact Tr.mono (fun k _ hk => by omega) _ _ (Tr.keep k10 (fun k hk e => by omega) _ _ HTR.out)
set_option maxRecDepth 100000 in
/-- outside -/
theorem next_out (s : ByteArray) (p : Nat) (hp : s.size < p) (_hs : s.size ≤ 1048576) (B : Nat) (sa : Nat → Addr) (w : World) (g : GL B sa w) : Calls Tryz.prog 14 #[.string s, .int .i64 (p : Int)] w fun e w' => e = .returned (.tuple #[ER.val Raw.zero, .int .i64 0, sent sa 1]) ∧ Keep nob w w' := by
  obtain ⟨w0, b4, HW0, HB4, HK0, HT0, HL0⟩ := start w
  have g1 := (g.keep HK0.out (fun _ h => h.elim)).err 1 (by decide) (by decide)
  simp only [gerr, sent] at g1
  have hd0 : decide ((p : Int) < 0) = false := by rw [decide_eq_false_iff_not]; omega
  have hd1 : decide ((p : Int) > (s.size : Int)) = true := by rw [decide_eq_true_iff]; omega
  have hn1 : decide (s.size < p) = true := by rw [decide_eq_true_iff]; exact hp
  obtain ⟨v0, v1, v2, v3, v4, v5, v6, v7, ⟨c0, c1, c2, c3, c4, c5, c6, c7⟩, f0, f1, f2, f3, f4, f5, f6, f7⟩ := eight HT0.out
  have n4 : ¬ b4 = 0 := by have h1 := g.le; have h2 := g.lt; have h3 := HL0.out; omega
  have n4' : ¬ 0 = b4 := fun e => n4 e.symm
  clear g hp
  go_enter Tryz.func14, Tryz.ntmps14
  go_upto_region 1 with (fail)
  rw [HW0.out, HB4.out]
  go_upto_region 2 with (fail)
  go_region_held3 (fun w' => w'.cell? ⟨0, 0, none⟩ = some (.iface 259 (.pointer (some (sa 1))))) (go_keep) (fail)
  obtain ⟨w10, e10, r10, k10⟩ := put8 HT0.out Raw.zero (.int .i8 0) (.int .u64 0) (.bool false) (.slice none 0 0) (.int .u64 0) (.int .i8 0) (.string ⟨#[]⟩) (.slice none 0 0) rfl
  rw [e10.out]
  obtain ⟨w11, HW11⟩ : ∃ w11, Hid (w10.drew = w11) := ⟨_, Lib.hid rfl⟩
  have k11 : Keep nob w10 w11 := by rw [← HW11.out]; exact (Keep.refl nob w10).drew
  rw [HW11.out]
  have h1 := HL0.out
  clear g1 c0 c1 c2 c3 c4 c5 c6 c7 f0 f1 f2 f3 f4 f5 f6 f7
  go_wp2_with (fail)
  exact ret_vtt rfl rfl rfl rfl rfl (range_keep k11 r10) ⟨rfl, (HK0.out.trans k10 (fun j h6 e => by omega)).then_ k11⟩
end Go.Proofs.YtiemkfibpfndaaaGreatDoor
