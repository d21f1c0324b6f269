/- OrderCounts answers true, and keeps all memory that there was. -/
import Derived.Test.YtnofckgnnpmiiaaCb
import Derived.Test.YtnofckgnnpmiiaaUq
import Derived.Test.YtnofckgnnpmiiaaTw
import Derived.Test.YtnofckgnnpmiiaaTk
import Derived.Test.YtnofckgnnpmiiaaLv
import Derived.Test.YtnofckgnnpmiiaaSh
import Derived.Test.YtnofckgnnpmiiaaFx
import Derived.Deep.Cut
import Derived.Deep.RegionHeld3
namespace Go.Proofs.Ytnofckgnnpmiiaa
open Go.RowKit Go.Shelf
attribute [local go_sem ↓] Go.wp_at_zero Go.wp_at_succ

set_option maxRecDepth 100000 in
set_option maxHeartbeats 16000000 in
theorem counts_ok (A0 : Option Addr) (c0 : Nat) (xs : List Item) (A1 : Option Addr) (c1 : Nat) (ys : List Item) (z : Item) (o : Int) (w : World) (hx : Sl EI w A0 c0 xs) (hy : Sl EI w A1 c1 ys) (hlx : xs.length ≤ 100000000) (hly : ys.length ≤ 100000000)
    (hb0 : ∀ a, A0 = some a → a.block < w.heap.size) (hb1 : ∀ a, A1 = some a → a.block < w.heap.size) :
    Calls Try.prog 11 #[.agg #[.slice A0 xs.length c0, .slice A1 ys.length c1, .int .i64 z.1, .int .i64 z.2, .int .i64 o]] w (fun e w' => e = .returned (.bool true) ∧ Keep nob w w') := by
  have HX := Lib.hid hx
  have HY := Lib.hid hy
  have HB := Lib.hid (And.intro hb0 hb1)
  have hlc0 := hx.le
  have hcc0 := hx.cap
  have hlc1 := hy.le
  have hcc1 := hy.cap
  obtain ⟨L1, hL1⟩ : ∃ L, Hid (xs.length = L) := ⟨_, Lib.hid rfl⟩
  obtain ⟨L2, hL2⟩ : ∃ L, Hid (ys.length = L) := ⟨_, Lib.hid rfl⟩
  rw [hL1.out] at hlc0 ⊢
  rw [hL2.out] at hlc1 ⊢
  have HLL1 : Hid (L1 ≤ 100000000) := by unfold Hid; rw [← hL1.out]; omega
  have HLL2 : Hid (L2 ≤ 100000000) := by unfold Hid; rw [← hL2.out]; omega
  have hLb1 : (L1 : Int) ≤ 100000000 := by have := HLL1.out; omega
  have hLb2 : (L2 : Int) ≤ 100000000 := by have := HLL2.out; omega
  clear hx hy hlx hly hb0 hb1
  obtain ⟨w0, HW0⟩ : ∃ w0, Hid (w.alloc (.cells #[.slice A0 L1 c0, .slice A1 L2 c1, .int .i64 z.1, .int .i64 z.2, .int .i64 o] 84) = w0) := ⟨_, Lib.hid rfl⟩
  have HK0 : Hid (Keep nob w w0) := by rw [← HW0.out]; exact (Keep.refl nob w).alloc _
  obtain ⟨ba, HBA⟩ : ∃ ba, Hid (w.heap.size = ba) := ⟨_, Lib.hid rfl⟩
  have a0 : w0.cell? ⟨ba, 0, none⟩ = some (.slice A0 L1 c0) := by rw [← HW0.out, ← HBA.out]; simp
  have a1 : w0.cell? ⟨ba, 1, none⟩ = some (.slice A1 L2 c1) := by rw [← HW0.out, ← HBA.out]; simp
  have a2 : w0.cell? ⟨ba, 2, none⟩ = some (.int .i64 z.1) := by rw [← HW0.out, ← HBA.out]; simp
  have a3 : w0.cell? ⟨ba, 3, none⟩ = some (.int .i64 z.2) := by rw [← HW0.out, ← HBA.out]; simp
  have a4 : w0.cell? ⟨ba, 4, none⟩ = some (.int .i64 o) := by rw [← HW0.out, ← HBA.out]; simp
  have n0 := World.new_ne w0 _ a0
  go_enter Try.func11, Try.ntmps11
  go_upto_region 1 with (fail)
  rw [HW0.out, HBA.out]
  go_region_held3 (fun w' => w'.cell? ⟨ba, 0, none⟩ = some (.slice A0 L1 c0) ∧ w'.cell? ⟨ba, 1, none⟩ = some (.slice A1 L2 c1) ∧ w'.cell? ⟨ba, 2, none⟩ = some (.int .i64 z.1) ∧ w'.cell? ⟨ba, 3, none⟩ = some (.int .i64 z.2) ∧ w'.cell? ⟨ba, 4, none⟩ = some (.int .i64 o)) (go_keep) (fail)
  obtain ⟨w1, HW1⟩ : ∃ w1, Hid ((w0.alloc (.cells #[.int .i64 z.1, .int .i64 z.2] 27)).drew = w1) := ⟨_, Lib.hid rfl⟩
  obtain ⟨bz, HBZ⟩ : ∃ bz, Hid (w0.heap.size = bz) := ⟨_, Lib.hid rfl⟩
  have HK1 : Hid (Keep nob w w1) := by rw [← HW1.out]; exact (HK0.out.alloc _).drew
  have HZ1 : Hid (w1.cell? ⟨bz, 0, none⟩ = some (.int .i64 z.1) ∧ w1.cell? ⟨bz, 1, none⟩ = some (.int .i64 z.2)) := by rw [← HW1.out, ← HBZ.out]; exact ⟨by simp, by simp⟩
  rw [HW1.out, HBZ.out]
  clear a0 a1 a2 a3 a4 n0
  obtain ⟨D, HD⟩ : ∃ D, Hid (dig L1 = D) := ⟨_, Lib.hid rfl⟩
  have HDB : Hid (D ≤ 30) := by unfold Hid; rw [← HD.out]; exact dig_le L1 (by have := HLL1.out; omega)
  have hDb : (D : Int) ≤ 30 := by have := HDB.out; omega
  go_upto_region 3 with (go_at_call 49; go_must (refine (digits_ok L1 _ (by have := HLL1.out; omega)).mono ?_); rintro e w2 ⟨rfl, hk⟩; have HK12 := Lib.hid hk; clear hk; rw [HD.out])
  have HK2 : Hid (Keep nob w w2) := HK1.out.then_ HK12.out
  obtain ⟨bc, HBC⟩ : ∃ bc, Hid (w2.heap.size = bc) := ⟨_, Lib.hid rfl⟩
  obtain ⟨w3, HW3⟩ : ∃ w3, Hid (w2.alloc (.cells #[.int .i64 o, .int .i64 0] 88) = w3) := ⟨_, Lib.hid rfl⟩
  go_upto_region 4 with (fail)
  rw [HW3.out, HBC.out]
  have HC := Lib.hid (show CmpOk Try.prog EI (.func (.func 50) #[.pointer (some ⟨bc, 0, none⟩)] #[]) (cmpR o) (bc + 1) (fun k => k = bc) (Cnt o bc) from count_cmp o bc)
  have HBW : Hid (bc + 1 ≤ w3.heap.size) := by unfold Hid; rw [← HW3.out, ← HBC.out]; simp
  have HI : Hid (Cnt o bc 0 w3) := by
    unfold Hid
    rw [← HW3.out, ← HBC.out]
    refine ⟨by simp, ?_, there_alloc_new w2 _ _ 2 (Nat.le_refl _)⟩
    rw [wrap_nought]
    simp
  have HK23 : Hid (Keep nob w w3) := by unfold Hid; rw [← HW3.out]; exact HK2.out.alloc _
  have HWB : Hid (w.heap.size ≤ bc) := by unfold Hid; rw [← HBC.out]; exact HK2.out.size
  have HA0 : Hid (¬ InB (fun k => k = bc) A0) := fun ⟨a, ha, e⟩ => by have h1 := HB.out.1 a ha; have h2 := HWB.out; have h3 : a.block = bc := e; omega
  have HA1 : Hid (¬ InB (fun k => k = bc) A1) := fun ⟨a, ha, e⟩ => by have h1 := HB.out.2 a ha; have h2 := HWB.out; have h3 : a.block = bc := e; omega
  have HX3 : Hid (∀ w', Keep (fun k => k = bc) w3 w' → Sl EI w' A0 c0 xs ∧ bc + 1 ≤ w'.heap.size ∧ (∀ a, A0 = some a → a.block < w'.heap.size)) := fun w' hk =>
    ⟨(HX.out.keep HK23.out (nobIn _)).keep hk HA0.out, Nat.le_trans HBW.out hk.size, fun a ha => by have h1 := HB.out.1 a ha; have h2 := HWB.out; have h3 := HBW.out; have h4 := hk.size; omega⟩
  have HY3 : Hid (∀ w', Keep (fun k => k = bc) w3 w' → Sl EI w' A1 c1 ys ∧ (∀ a, A1 = some a → a.block < w'.heap.size)) := fun w' hk =>
    ⟨(HY.out.keep HK23.out (nobIn _)).keep hk HA1.out, fun a ha => by have h1 := HB.out.2 a ha; have h2 := HWB.out; have h3 := HBW.out; have h4 := hk.size; omega⟩
  have HZ3 : Hid (∀ w', Keep (fun k => k = bc) w3 w' → w'.cell? ⟨bz, 0, none⟩ = some (.int .i64 z.1) ∧ w'.cell? ⟨bz, 1, none⟩ = some (.int .i64 z.2)) := fun w' hk => by
    have hb : bz < bc := by rw [← HBC.out]; exact Nat.lt_of_lt_of_le (World.block_lt_of_cell? w1 _ HZ1.out.1) HK12.out.size
    have h3 : Keep (fun _ => False) w2 w3 := by rw [← HW3.out]; exact (Keep.refl _ w2).alloc _
    exact ⟨hk.cell (h3.cell (HK12.out.cell HZ1.out.1 (fun h => h)) (fun h => h)) (by show ¬ bz = bc; omega), hk.cell (h3.cell (HK12.out.cell HZ1.out.2 (fun h => h)) (fun h => h)) (by show ¬ bz = bc; omega)⟩
  have HKC : Hid (Keep (fun k => k = bc) w3 w3) := Keep.refl _ _
  go_upto_region 5 with (go_at_call 14; go_must (refine (hL1.out ▸ sort_any HC.out A0 c0 0 xs w3 (HX3.out w3 HKC.out).2.1 (HX3.out w3 HKC.out).1 (by have := HLL1.out; have := hL1.out; omega) HI.out : Calls Try.prog 14 #[.slice A0 L1 c0, .func (.func 50) #[.pointer (some ⟨bc, 0, none⟩)] #[]] w3 _).mono ?_); rintro e w4 ⟨As, cs, ps, rfl, ho, -, hp, hf, hk, q4, hq, hi⟩; have HO4 := Lib.hid ho; have HP4 := Lib.hid hp; have HQ4 := Lib.hid hq; have HF4 := Lib.hid hf; replace HI := Lib.hid hi; clear ho hp hq hf hi)
  rw [hL1.out]
  have HQ : Hid (q4 ≤ L1 * (2 + 2 * D) ∧ q4 ≤ 9000000000000) := by
    have h1 := HQ4.out
    have h2 := steps_dig HP4.out
    rw [hL1.out] at h1 h2
    rw [HD.out] at h2
    have h3 : ps * L1 ≤ D * L1 := Nat.mul_le_mul_right _ h2
    have h4 : D * L1 ≤ 30 * L1 := Nat.mul_le_mul_right _ HDB.out
    have h5 := HLL1.out
    have h6 : L1 * (2 + 2 * D) = 2 * L1 + 2 * (D * L1) := by rw [Nat.mul_add, Nat.mul_comm L1 2, Nat.mul_comm L1 (2 * D), Nat.mul_assoc]
    exact ⟨by omega, by omega⟩
  have HQA := HQ
  obtain ⟨s, HS⟩ : ∃ s, Hid (stepsL (cmpR o) xs ps = s) := ⟨_, Lib.hid rfl⟩
  have HSL : Hid (s.length = L1) := by unfold Hid; rw [← HS.out, stepsL_len, hL1.out]
  have HSs : Hid (Sl EI w4 As cs s) := by
    have h := HO4.out.sl
    rw [HS.out] at h
    exact h
  have HNS : Hid (¬ InB (fun k => k = bc) As) := fun ⟨a, ha, e⟩ => by have h1 := HF4.out a ha; have h2 := HBW.out; have h3 : a.block = bc := e; omega
  replace HKC := Lib.hid (HKC.out.then_ hk)
  clear HO4
  have hqb : (q4 : Int) ≤ 9223372036854775807 := by have := HQ.out; omega
  have cr := HI.out.read hqb
  have hfz := HI.out.fz
  clear hk
  go_upto_region 7 with (fail)
  obtain ⟨w5, HWQ⟩ : ∃ w5, Hid (w4.setCell ⟨bc, 1, none⟩ (.int .i64 0) = w5) := ⟨_, Lib.hid rfl⟩
  rw [HWQ.out]
  replace HI : Hid (Cnt o bc 0 w5) := by unfold Hid; rw [← HWQ.out]; exact HI.out.reset
  have HKB : Hid (Keep (fun k => k = bc) w4 w5) := by unfold Hid; rw [← HWQ.out]; exact (Keep.refl (fun k => k = bc) w4).setCell (fun _ => rfl) _
  replace HKC := Lib.hid (HKC.out.then_ HKB.out)
  replace HSs := Lib.hid (HSs.out.keep HKB.out HNS.out)
  clear cr hfz HWQ HKB
  go_upto_region 8 with (go_at_call 24; go_must (refine (hL1.out ▸ twice_any HC.out A0 c0 0 xs w5 (HX3.out w5 HKC.out).2.1 (HX3.out w5 HKC.out).1 HA0.out (by have := HLL1.out; have := hL1.out; omega) HI.out : Calls Try.prog 24 #[.slice A0 L1 c0, .func (.func 50) #[.pointer (some ⟨bc, 0, none⟩)] #[]] w5 _).mono ?_); rintro e w6 ⟨pt, rfl, -, hp, hk, q6, hq, hi⟩; have HP6 := Lib.hid hp; have HQ6 := Lib.hid hq; replace HI := Lib.hid hi; clear hp hq hi)
  clear HQ
  have HQ : Hid (q6 ≤ L1 * (2 + 2 * D) ∧ q6 ≤ 9000000000000) := by
    have h1 := HQ6.out
    have h2 := steps_dig HP6.out
    rw [hL1.out] at h1 h2
    rw [HD.out] at h2
    have h3 : pt * L1 ≤ D * L1 := Nat.mul_le_mul_right _ h2
    have h4 : D * L1 ≤ 30 * L1 := Nat.mul_le_mul_right _ HDB.out
    have h5 := HLL1.out
    have h6 : L1 * (2 + 2 * D) = 2 * L1 + 2 * (D * L1) := by rw [Nat.mul_add, Nat.mul_comm L1 2, Nat.mul_comm L1 (2 * D), Nat.mul_assoc]
    exact ⟨by omega, by omega⟩
  have HQB := HQ
  replace HKC := Lib.hid (HKC.out.then_ hk)
  replace HSs := Lib.hid (HSs.out.keep hk HNS.out)
  have hqb : (q6 : Int) ≤ 9223372036854775807 := by have := HQ.out; omega
  have cr := HI.out.read hqb
  have hfz := HI.out.fz
  clear hk
  go_upto_region 10 with (fail)
  obtain ⟨w7, HWQ⟩ : ∃ w7, Hid (w6.setCell ⟨bc, 1, none⟩ (.int .i64 0) = w7) := ⟨_, Lib.hid rfl⟩
  rw [HWQ.out]
  replace HI : Hid (Cnt o bc 0 w7) := by unfold Hid; rw [← HWQ.out]; exact HI.out.reset
  have HKB : Hid (Keep (fun k => k = bc) w6 w7) := by unfold Hid; rw [← HWQ.out]; exact (Keep.refl (fun k => k = bc) w6).setCell (fun _ => rfl) _
  replace HKC := Lib.hid (HKC.out.then_ HKB.out)
  replace HSs := Lib.hid (HSs.out.keep HKB.out HNS.out)
  clear cr hfz HWQ HKB
  go_upto_region 11 with (go_at_call 45; go_must (refine (merge45 HC.out A0 A1 c0 c1 L1 L2 0 xs ys w7 hL1.out hL2.out (HX3.out w7 HKC.out).2.1 (HX3.out w7 HKC.out).1 (HY3.out w7 HKC.out).1 HA0.out HA1.out (by have := HLL1.out; omega) (by have := HLL2.out; omega) (HX3.out w7 HKC.out).2.2 (HY3.out w7 HKC.out).2 HI.out).mono ?_); rintro e w8 ⟨rfl, -, -, hk, q8, hq, hi⟩; have HQ8 := Lib.hid hq; replace HI := Lib.hid hi; clear hq hi)
  clear HQ
  have HQ : Hid (q8 ≤ L1 + L2 ∧ q8 ≤ 9000000000000) := ⟨HQ8.out, by have := HQ8.out; have := HLL1.out; have := HLL2.out; omega⟩
  have HQC := HQ
  replace HKC := Lib.hid (HKC.out.then_ hk)
  replace HSs := Lib.hid (HSs.out.keep hk HNS.out)
  have hqb : (q8 : Int) ≤ 9223372036854775807 := by have := HQ.out; omega
  have cr := HI.out.read hqb
  have hfz := HI.out.fz
  clear hk
  go_upto_region 13 with (fail)
  obtain ⟨w9, HWQ⟩ : ∃ w9, Hid (w8.setCell ⟨bc, 1, none⟩ (.int .i64 0) = w9) := ⟨_, Lib.hid rfl⟩
  rw [HWQ.out]
  replace HI : Hid (Cnt o bc 0 w9) := by unfold Hid; rw [← HWQ.out]; exact HI.out.reset
  have HKB : Hid (Keep (fun k => k = bc) w8 w9) := by unfold Hid; rw [← HWQ.out]; exact (Keep.refl (fun k => k = bc) w8).setCell (fun _ => rfl) _
  replace HKC := Lib.hid (HKC.out.then_ HKB.out)
  replace HSs := Lib.hid (HSs.out.keep HKB.out HNS.out)
  clear cr hfz HWQ HKB
  go_upto_region 14 with (go_at_call 46; go_must (refine (unique46 HC.out A0 c0 L1 0 xs w9 hL1.out (HX3.out w9 HKC.out).2.1 (HX3.out w9 HKC.out).1 HA0.out (by have := HLL1.out; omega) HI.out).mono ?_); rintro e w10 ⟨Au, cu, rfl, -, -, hk, q10, hq, hi⟩; have HQ10 := Lib.hid hq; replace HI := Lib.hid hi; clear hq hi)
  clear HQ
  have HQ : Hid (q10 ≤ L1 ∧ q10 ≤ 9000000000000) := ⟨HQ10.out, by have := HQ10.out; have := HLL1.out; omega⟩
  have HQE := HQ
  replace HKC := Lib.hid (HKC.out.then_ hk)
  replace HSs := Lib.hid (HSs.out.keep hk HNS.out)
  have hqb : (q10 : Int) ≤ 9223372036854775807 := by have := HQ.out; omega
  have cr := HI.out.read hqb
  have hfz := HI.out.fz
  clear hk
  go_upto_region 16 with (fail)
  obtain ⟨w11, HWQ⟩ : ∃ w11, Hid (w10.setCell ⟨bc, 1, none⟩ (.int .i64 0) = w11) := ⟨_, Lib.hid rfl⟩
  rw [HWQ.out]
  replace HI : Hid (Cnt o bc 0 w11) := by unfold Hid; rw [← HWQ.out]; exact HI.out.reset
  have HKB : Hid (Keep (fun k => k = bc) w10 w11) := by unfold Hid; rw [← HWQ.out]; exact (Keep.refl (fun k => k = bc) w10).setCell (fun _ => rfl) _
  replace HKC := Lib.hid (HKC.out.then_ HKB.out)
  replace HSs := Lib.hid (HSs.out.keep HKB.out HNS.out)
  clear cr hfz HWQ HKB
  clear HQ
  have z0 := (HZ3.out w11 HKC.out).1
  have z1 := (HZ3.out w11 HKC.out).2
  have HSE : Hid (Calls Try.prog 21 #[.slice As L1 cs, .agg #[.int .i64 z.1, .int .i64 z.2], .func (.func 50) #[.pointer (some ⟨bc, 0, none⟩)] #[]] w11 fun e w' => (∃ p a, e = .returned (.tuple #[.int .i64 (p : Nat), .bool a])) ∧ Keep (fun k => k = bc) w11 w' ∧ ∃ q, q ≤ dig L1 + 1 ∧ Cnt o bc (0 + q) w') := by
    have h := search_any HC.out As cs 0 s z w11 (HX3.out w11 HKC.out).2.1 HSs.out HNS.out (by have := HLL1.out; have := HSL.out; omega) HI.out
    rw [HSL.out] at h
    refine h.mono fun e w' ⟨h1, _, h2, q, h3, h4⟩ => ⟨⟨_, _, h1⟩, h2, q, ?_, h4⟩
    rw [HSL.out] at h3
    exact h3
  go_upto_region 17 with (go_at_call 21; go_must (refine HSE.out.mono ?_); rintro e w12 ⟨⟨p12, a12, rfl⟩, hk, q12, hq, hi⟩; have HQ12 := Lib.hid hq; replace HI := Lib.hid hi; replace HKC := Lib.hid (HKC.out.then_ hk); clear hq hi hk)
  clear z0 z1 HSs HSE
  have HQ : Hid (q12 ≤ 3 + D ∧ q12 ≤ 9000000000000) := by
    have h1 := HQ12.out
    rw [HD.out] at h1
    have h2 := HDB.out
    exact ⟨by omega, by omega⟩
  obtain ⟨E, hE⟩ : ∃ E : Nat, Hid (2 * D = E) := ⟨_, Lib.hid rfl⟩
  obtain ⟨F, hF⟩ : ∃ F : Nat, Hid (2 + E = F) := ⟨_, Lib.hid rfl⟩
  obtain ⟨G, hG⟩ : ∃ G : Nat, Hid (L1 * F = G) := ⟨_, Lib.hid rfl⟩
  obtain ⟨M, hM⟩ : ∃ M : Nat, Hid (L1 + L2 = M) := ⟨_, Lib.hid rfl⟩
  obtain ⟨N, hN⟩ : ∃ N : Nat, Hid (3 + D = N) := ⟨_, Lib.hid rfl⟩
  have HGB : Hid (G ≤ 100000000 * 100) := by
    unfold Hid
    rw [← hG.out]
    exact Nat.mul_le_mul HLL1.out (by have := hF.out; have := hE.out; have := HDB.out; omega)
  have hw1 : IntKind.i64.wrap (2 * (D : Int)) = (E : Int) := by rw [IntWalk.i64_left, IntWalk.wrap64_in _ ⟨by omega, by omega⟩]; have := hE.out; omega
  have hw2 : IntKind.i64.wrap (2 + (E : Int)) = (F : Int) := by have h1 := hE.out; have h2 := hF.out; rw [IntWalk.i64_left, IntWalk.wrap64_in _ ⟨by omega, by omega⟩]; omega
  have hw3 : IntKind.i64.wrap ((L1 : Int) * (F : Int)) = (G : Int) := by
    have h1 := hG.out
    have h2 := HGB.out
    have h3 : (L1 : Int) * (F : Int) = (G : Int) := by rw [← h1]; exact (Int.natCast_mul L1 F).symm
    rw [h3, IntWalk.i64_left]
    exact IntWalk.wrap64_in _ ⟨by omega, by omega⟩
  have hw4 : IntKind.i64.wrap ((L1 : Int) + (L2 : Int)) = (M : Int) := by have h1 := hM.out; rw [IntWalk.i64_left, IntWalk.wrap64_in _ ⟨by omega, by omega⟩]; omega
  have hw5 : IntKind.i64.wrap (3 + (D : Int)) = (N : Int) := by have h1 := hN.out; rw [IntWalk.i64_left, IntWalk.wrap64_in _ ⟨by omega, by omega⟩]; omega
  have HFE : Hid (2 + 2 * D = F) := by have h1 := hE.out; have h2 := hF.out; unfold Hid; omega
  have g1 : decide (G < q4) = false := by have h := HQA.out.1; rw [HFE.out, hG.out] at h; exact decide_eq_false (by omega)
  have g2 : decide (G < q6) = false := by have h := HQB.out.1; rw [HFE.out, hG.out] at h; exact decide_eq_false (by omega)
  have g3 : decide (M < q8) = false := by have h := HQC.out.1; rw [hM.out] at h; exact decide_eq_false (by omega)
  have g4 : decide (L1 < q10) = false := by have h := HQE.out.1; exact decide_eq_false (by omega)
  have g5 : decide (N < q12) = false := by have h := HQ.out.1; rw [hN.out] at h; exact decide_eq_false (by omega)
  have i1 : decide ((G : Int) < (q4 : Int)) = false := decide_eq_false (by have := of_decide_eq_false g1; omega)
  have i2 : decide ((G : Int) < (q6 : Int)) = false := decide_eq_false (by have := of_decide_eq_false g2; omega)
  have i3 : decide ((M : Int) < (q8 : Int)) = false := decide_eq_false (by have := of_decide_eq_false g3; omega)
  have i4 : decide ((L1 : Int) < (q10 : Int)) = false := decide_eq_false (by have := of_decide_eq_false g4; omega)
  have i5 : decide ((N : Int) < (q12 : Int)) = false := decide_eq_false (by have := of_decide_eq_false g5; omega)
  have hqb : (q12 : Int) ≤ 9223372036854775807 := by have := HQ.out; omega
  have cr := HI.out.read hqb
  go_upto_region 19 with (fail)
  clear hw1 hw2 hw3 hw4 hw5 g1 g2 g3 g4 g5 i1 i2 i3 i4 i5 cr hqb HGB HFE HQ HQA HQB HQC HQE hE hF hG hM hN HZ3 HY3
  have HXW : Hid (∀ w', Keep (fun k => bc ≤ k) w3 w' → Sl EI w' A0 c0 xs) := fun w' hk =>
    (HX.out.keep HK23.out (nobIn _)).keep hk (fun ⟨a, ha, e⟩ => by have h1 := HB.out.1 a ha; have h2 := HWB.out; have h3 : bc ≤ a.block := e; omega)
  go_upto_region 20 with (go_at_call 33; go_must (refine (new_ok 50 #[.pointer (some ⟨bc, 0, none⟩)] #[] w12).mono ?_); rintro e w13 ⟨rfl, hw⟩; have HW13 := Lib.hid hw; clear hw)
  obtain ⟨bb, HBB⟩ : ∃ bb, Hid (w12.heap.size = bb) := ⟨_, Lib.hid rfl⟩
  rw [HBB.out]
  have HCB : Hid (CB o bc bb 0 0 (0 + q12) w3 w13) := by
    have k : Keep (fun _ => False) w12 w13 := by rw [HW13.out]; exact (Keep.refl _ w12).alloc _
    have h1 := HI.out.ord
    have h2 := (HX3.out w12 HKC.out).2.1
    refine ⟨none, 0, [], ?_, rfl, fun a ha => by simp at ha, ⟨k.cell HI.out.ord (fun h => h), k.cell HI.out.cnt (fun h => h), k.there HI.out.th (fun h => h)⟩, ?_, by rw [← HBB.out]; exact h2, Nat.le_trans h2 k.size⟩
    · rw [HW13.out, ← HBB.out]
      exact ⟨by simp [cntF], by simp, by simp, there_alloc_new w12 _ _ 3 (Nat.le_refl _), Ow.nil_ EHI _ none, fun a h => by simp at h, fun a h => by simp at h⟩
    · exact (HKC.out.mono (fun j _ (e : j = bc) => by show bc ≤ j; omega)).then_ (k.mono (fun _ _ h => h.elim))
  clear HI HX3 HW13 HKC
  go_wp2_with (fail)
  go_loopw [16] (fun u wr => ∃ i n : Nat, u = .int .i64 (i : Int) ∧ i ≤ L1 ∧ Hid (CB o bc bb i i n w3 wr)) (fun u _ => L1 - (intOf u).toNat)
  case atStart => exact ⟨0, 0 + q12, rfl, Nat.zero_le _, HCB.out⟩
  case round =>
    obtain ⟨i, n, rfl, hi, HR⟩ := hrel
    clear HCB
    by_cases hlt : i < L1
    · have hi0 : (0 : Int) ≤ (i : Int) := by omega
      have hi1 : (i : Int) < (L1 : Int) := by omega
      obtain ⟨j, HJ⟩ : ∃ j, Hid (i + 1 = j) := ⟨_, Lib.hid rfl⟩
      have hw0 : IntKind.i64.wrap ((i : Int) + 1) = (j : Int) := by rw [IntWalk.i64_left, IntWalk.wrap64_in _ ⟨by omega, by omega⟩]; have := HJ.out; omega
      have hfz := HR.out.cnt.fz
      have cr := HR.out.cnt.cnt
      go_upto_region 26 with (fail)
      obtain ⟨wB, HWQ⟩ : ∃ wB, Hid (wr.setCell ⟨bc, 1, none⟩ (.int .i64 0) = wB) := ⟨_, Lib.hid rfl⟩
      rw [HWQ.out]
      have HR1 : Hid (CB o bc bb i i 0 w3 wB) := by unfold Hid; rw [← HWQ.out]; exact HR.out.reset
      clear hfz cr HWQ
      obtain ⟨b1, o1, hAu, hx⟩ := (HXW.out wB HR1.out.kept).elem (i := i) (by rw [hL1.out]; exact hlt)
      subst hAu
      obtain ⟨x, HXX⟩ : ∃ x, Hid (xs[i]'(by rw [hL1.out]; exact hlt) = x) := ⟨_, Lib.hid rfl⟩
      rw [HXX.out] at hx
      have hx1 := hx 0 _ rfl
      have hx2 := hx 1 _ rfl
      simp only [EI, Nat.add_zero] at hx1 hx2
      clear hx HXX
      have HAD : Hid (Calls Try.prog 40 #[.pointer (some ⟨bb, 0, none⟩), .slice (some ⟨wB.heap.size, 0, none⟩) 1 1] (wB.alloc (.cells #[.int .i64 x.1, .int .i64 x.2] 27)) (fun e w' => e = .returned (.tuple #[]) ∧ ∃ q, q ≤ dig j ∧ CB o bc bb j j (0 + q) w3 w')) := by
        have h := HR1.out.add x (by have := HLL1.out; omega) (by have := HLL1.out; omega)
        rw [HJ.out] at h
        exact h
      go_upto_region 27 with (go_at_call 40; go_must (refine HAD.out.mono ?_); rintro e wC ⟨rfl, q, hq, hc⟩; have HQ := Lib.hid hq; have HR2 := Lib.hid hc; clear hq hc)
      clear hx1 hx2
      obtain ⟨d, HDD⟩ : ∃ d, Hid (dig j = d) := ⟨_, Lib.hid rfl⟩
      have HDG : Hid (∀ w', Calls Try.prog 49 #[.int .i64 (j : Int)] w' (fun e w'' => e = .returned (.int .i64 (d : Int)) ∧ Keep (fun _ => False) w' w'')) := fun w' => by
        have h := digits_ok j w' (by have := HJ.out; have := HLL1.out; omega)
        rw [HDD.out] at h
        exact h
      have hdb : d ≤ 30 := by rw [← HDD.out]; exact dig_le j (by have := HJ.out; have := HLL1.out; omega)
      rw [HDD.out] at HQ
      obtain ⟨E, hE⟩ : ∃ E : Nat, Hid (2 * d = E) := ⟨_, Lib.hid rfl⟩
      obtain ⟨F, hF⟩ : ∃ F : Nat, Hid (2 + E = F) := ⟨_, Lib.hid rfl⟩
      have hw1 : IntKind.i64.wrap (2 * (d : Int)) = (E : Int) := by rw [IntWalk.i64_left, IntWalk.wrap64_in _ ⟨by omega, by omega⟩]; have := hE.out; omega
      have hw2 : IntKind.i64.wrap (2 + (E : Int)) = (F : Int) := by have h1 := hE.out; have h2 := hF.out; rw [IntWalk.i64_left, IntWalk.wrap64_in _ ⟨by omega, by omega⟩]; omega
      have g1 : decide (F < q) = false := decide_eq_false (by have := HQ.out; have := hE.out; have := hF.out; omega)
      have i1 : decide ((F : Int) < (q : Int)) = false := decide_eq_false (by have := of_decide_eq_false g1; omega)
      have hqb : (q : Int) ≤ 9223372036854775807 := by have := HQ.out; omega
      have HF : Hid (∀ w', Keep (fun _ => False) wC w' → w'.cell? ⟨bc, 1, none⟩ = some (.int .i64 (q : Int)) ∧ True) := fun w' hk => ⟨hk.cell (HR2.out.cnt.read hqb) (fun h => h), trivial⟩
      refine wp_region_kept (by kernel_rfl) (by kernel_rfl) (QV.out ?_)
      repeat (first
        | (refine kq_skip (by rfl) (fun K hK => ?_); go_simp; refine hK _ ?_; clear hK K)
        | (refine kq_want (by rfl) (fun K hK => ?_); first
            | (refine BigFrame.quiet_move _ rfl ?_; go_simp; refine hK _ ?_; clear hK K)
            | (refine kq_still ?_ (fun w' hw' => ?_) ?_; rotate_left; (obtain ⟨c1', c2'⟩ := HF.out w' hw'; go_simp; first | done | exact rfl); go_simp; refine hK _ ?_; clear hK K)
            | (go_simp; apply Exists.intro; refine ⟨fun w' hw' => ?_, hK _ ?_⟩; (first | (refine (HDG.out w').mono ?_)); rintro e w'' ⟨rfl, hk''⟩; exact ⟨rfl, hw'.then_ hk''⟩; clear hK K)))
      refine ⟨wpQuiet_nil ?_⟩
      intro wq hkq
      have HR3 := Lib.hid (HR2.out.keep hkq)
      clear hkq
      go_wp2_with (fail)
      go_roundw
      case rel => exact ⟨j, _, by go_num, by have := HJ.out; omega, HR3⟩
      case measure => have := HJ.out; simp [intOf]; omega
    · have hiL : i = L1 := by omega
      subst i
      go_wp2_with (fail)
      go_loopw [2] (fun u wr => ∃ i n : Nat, i ≤ L1 ∧ Hid (CB o bc bb i L1 n w3 wr)) (fun _ wr => lenAt bb wr)
      case atStart => exact ⟨L1, n, Nat.le_refl _, HR⟩
      case round =>
        obtain ⟨i, n, hi, HR⟩ := hrel
        have HLE := Lib.hid HR.out.len
        by_cases h0 : i = 0
        · subst i
          have HKE : Hid (Keep nob w wr) := HK23.out.trans HR.out.kept (fun k h1 h2 => by have h3 : bc ≤ k := h2; have := HWB.out; omega)
          go_wp2_with (first
            | (go_at_call 38; go_must (refine HLE.out.mono ?_); rintro e wl ⟨rfl, hw⟩; replace hw := hw.symm; subst hw)
            | (go_at_call 20; go_must (refine (lives_ok _).mono ?_); rintro e wl ⟨rfl, hk⟩; have HKL := Lib.hid hk; clear hk))
          go_ret
          exact ⟨rfl, HKE.out.then_ HKL.out⟩
        · obtain ⟨k, HKE⟩ : ∃ k, Hid (i = k + 1) := ⟨i - 1, by unfold Hid; omega⟩
          have hp0 : (0 : Int) < (i : Int) := by omega
          have hp1 : 0 < i := by omega
          have hfz := HR.out.cnt.fz
          have cr := HR.out.cnt.cnt
          go_upto_region 32 with (go_at_call 38; go_must (refine HLE.out.mono ?_); rintro e wl ⟨rfl, hw⟩; replace hw := hw.symm; subst hw)
          obtain ⟨wB, HWQ⟩ : ∃ wB, Hid (wr.setCell ⟨bc, 1, none⟩ (.int .i64 0) = wB) := ⟨_, Lib.hid rfl⟩
          rw [HWQ.out]
          have HR1 : Hid (CB o bc bb i L1 0 w3 wB) := by unfold Hid; rw [← HWQ.out]; exact HR.out.reset
          clear hfz cr HWQ
          have HTK : Hid (Calls Try.prog 41 #[.pointer (some ⟨bb, 0, none⟩)] wB (fun e w' => (∃ x : Item, e = .returned (.tuple #[.agg #[.int .i64 x.1, .int .i64 x.2], .bool true])) ∧ ∃ q, q ≤ 2 * dig i ∧ CB o bc bb k L1 (0 + q) w3 w')) := by
            have h1 := HR1.out
            rw [HKE.out] at h1
            have h := h1.take (by have := HKE.out; have := HLL1.out; omega)
            rw [← HKE.out] at h
            exact h
          go_upto_region 33 with (go_at_call 41; go_must (refine HTK.out.mono ?_); rintro e wC ⟨⟨x, rfl⟩, q, hq, hc⟩; have HQ := Lib.hid hq; have HRC := Lib.hid hc; clear hq hc)
          obtain ⟨wD, HWD⟩ : ∃ wD, Hid (wC.alloc (.cells #[.int .i64 x.1, .int .i64 x.2] 27) = wD) := ⟨_, Lib.hid rfl⟩
          rw [HWD.out]
          have HR2 : Hid (CB o bc bb k L1 (0 + q) w3 wD) := HRC.out.keep (by rw [← HWD.out]; exact (Keep.refl _ wC).alloc _)
          obtain ⟨d, HDD⟩ : ∃ d, Hid (dig i = d) := ⟨_, Lib.hid rfl⟩
          have HDG : Hid (∀ w', Calls Try.prog 49 #[.int .i64 (i : Int)] w' (fun e w'' => e = .returned (.int .i64 (d : Int)) ∧ Keep (fun _ => False) w' w'')) := fun w' => by
            have h := digits_ok i w' (by have := HLL1.out; omega)
            rw [HDD.out] at h
            exact h
          have HLN : Hid (∀ w', Keep (fun _ => False) wD w' → Calls Try.prog 38 #[.pointer (some ⟨bb, 0, none⟩)] w' (fun e w'' => e = .returned (.int .i64 (k : Int)) ∧ Keep (fun _ => False) w' w'')) := fun w' hk =>
            ((HR2.out.keep hk).len).mono fun e w'' ⟨h1, h2⟩ => ⟨h1, by rw [h2]; exact Keep.refl _ _⟩
          have hdb : d ≤ 30 := by rw [← HDD.out]; exact dig_le i (by have := HLL1.out; omega)
          rw [HDD.out] at HQ
          obtain ⟨E, hE⟩ : ∃ E : Nat, Hid (2 * d = E) := ⟨_, Lib.hid rfl⟩
          obtain ⟨F, hF⟩ : ∃ F : Nat, Hid (2 + E = F) := ⟨_, Lib.hid rfl⟩
          have hw1 : IntKind.i64.wrap (2 * (d : Int)) = (E : Int) := by rw [IntWalk.i64_left, IntWalk.wrap64_in _ ⟨by omega, by omega⟩]; have := hE.out; omega
          have hw2 : IntKind.i64.wrap (2 + (E : Int)) = (F : Int) := by have h1 := hE.out; have h2 := hF.out; rw [IntWalk.i64_left, IntWalk.wrap64_in _ ⟨by omega, by omega⟩]; omega
          have hw3 : IntKind.i64.wrap ((i : Int) - 1) = (k : Int) := by rw [IntWalk.i64_left, IntWalk.wrap64_in _ ⟨by omega, by omega⟩]; have := HKE.out; omega
          have hw4 : (i : Int) - 1 = (k : Int) := by have := HKE.out; omega
          have hw5 : IntKind.i64.wrap (k : Int) = (k : Int) := by rw [IntWalk.i64_left]; exact IntWalk.wrap64_in _ ⟨by omega, by have := HKE.out; omega⟩
          have g1 : decide (F < q) = false := decide_eq_false (by have := HQ.out; have := hE.out; have := hF.out; omega)
          have i1 : decide ((F : Int) < (q : Int)) = false := decide_eq_false (by have := of_decide_eq_false g1; omega)
          have hqb : (q : Int) ≤ 9223372036854775807 := by have := HQ.out; omega
          have HF : Hid (∀ w', Keep (fun _ => False) wD w' → w'.cell? ⟨bc, 1, none⟩ = some (.int .i64 (q : Int)) ∧ True) := fun w' hk => ⟨hk.cell (HR2.out.cnt.read hqb) (fun h => h), trivial⟩
          refine wp_region_kept (by kernel_rfl) (by kernel_rfl) (QV.out ?_)
          repeat (first
            | (refine kq_skip (by rfl) (fun K hK => ?_); go_simp; refine hK _ ?_; clear hK K)
            | (refine kq_want (by rfl) (fun K hK => ?_); first
                | (refine BigFrame.quiet_move _ rfl ?_; go_simp; refine hK _ ?_; clear hK K)
                | (refine kq_still ?_ (fun w' hw' => ?_) ?_; rotate_left; (obtain ⟨c1', c2'⟩ := HF.out w' hw'; go_simp; first | done | exact rfl); go_simp; refine hK _ ?_; clear hK K)
                | (go_simp; apply Exists.intro; refine ⟨fun w' hw' => ?_, hK _ ?_⟩; (first | (go_at_call 49; refine (HDG.out w').mono ?_) | (go_at_call 38; refine (HLN.out w' hw').mono ?_)); rintro e w'' ⟨rfl, hk''⟩; exact ⟨rfl, hw'.then_ hk''⟩; clear hK K)))
          refine ⟨wpQuiet_nil ?_⟩
          intro wq hkq
          have HR3 := Lib.hid (HR2.out.keep hkq)
          clear hkq
          go_wp2_with (fail)
          go_roundw
          case rel => exact ⟨k, _, by have := HKE.out; omega, HR3⟩
          case measure => rw [HR3.out.lenAt, HR.out.lenAt]; have := HKE.out; omega
end Go.Proofs.Ytnofckgnnpmiiaa
