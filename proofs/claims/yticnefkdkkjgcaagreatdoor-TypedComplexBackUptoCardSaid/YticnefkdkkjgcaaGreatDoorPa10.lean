/- TypedComplexBack: the law. Printed by mkxf. -/
import Derived.Test.YticnefkdkkjgcaaGreatDoorPa9
namespace Go.Proofs.YticnefkdkkjgcaaGreatDoor
open Go.RowKit

set_option maxRecDepth 100000 in
set_option maxHeartbeats 1000000 in
theorem same25_ok (A A' : Option Addr) (c c' n : Nat) (l l' : List Nat) (w : World) (hn : l.length = n) (hn' : l'.length = n) (hc : ∀ i, i < n → canon (l.getD i 0) = canon (l'.getD i 0)) (h : Sl EFl w A c l) (h' : Sl EFl w A' c' l') :
    Calls Tryz.prog 14 #[.slice A n c, .slice A' n c', .bool true] w fun e w' => e = .returned (.bool true) ∧ Keep nob w w' := by
  have hle := h.le
  have hcc := h.cap
  have hle' := h'.le
  have hcc' := h'.cap
  rw [hn] at hle
  rw [hn'] at hle'
  have H := Lib.hid h
  have H' := Lib.hid h'
  have HN := Lib.hid hn
  have HN' := Lib.hid hn'
  have HCN := Lib.hid hc
  clear h h' hn hn' hc
  go_enter Tryz.func14, Tryz.ntmps14
  go_wp2
  go_loopw [7] (fun u7 wr => ∃ i : Nat, i ≤ n ∧ u7 = .int .i64 (i : Int) ∧ Hid (Keep nob w wr)) (fun u7 _ => n - (intOf u7).toNat)
  case atStart => exact ⟨0, Nat.zero_le _, rfl, Lib.hid (Keep.refl _ _)⟩
  case round =>
    obtain ⟨i, hi, rfl, HK⟩ := hrel
    rcases Nat.lt_or_ge i n with hlt | hge
    · have hd : decide ((i : Int) < (n : Int)) = true := by rw [decide_eq_true_iff]; omega
      have hi0 : (0 : Int) ≤ (i : Int) := by omega
      have hi1 : (i : Int) < (n : Int) := by omega
      have j5 : IntKind.i64.wrap ((i : Int) + 1) = (i : Int) + 1 := by rw [IntWalk.i64_left, IntWalk.wrap64_in _ ⟨by omega, by omega⟩]
      obtain ⟨x, HX⟩ : ∃ x, Hid (l.getD i 0 = x) := ⟨_, Lib.hid rfl⟩
      obtain ⟨y, HY⟩ : ∃ y, Hid (l'.getD i 0 = y) := ⟨_, Lib.hid rfl⟩
      obtain ⟨u, HU⟩ : ∃ u, Hid (canon x = u) := ⟨_, Lib.hid rfl⟩
      have HV : Hid (canon y = u) := Lib.hid (by rw [← HU.out, ← HX.out, ← HY.out, HCN.out i hlt])
      have hln : l ≠ [] := fun e => by have := HN.out; rw [e] at this; simp at this; omega
      have hln' : l' ≠ [] := fun e => by have := HN'.out; rw [e] at this; simp at this; omega
      obtain ⟨b, o, rfl, -⟩ := H.out.at_ hln
      obtain ⟨b', o', rfl, -⟩ := H'.out.at_ hln'
      have HCE : Hid (∀ w', Kept wr w' → w'.cell? ⟨b, o + i, none⟩ = some (.float .f64 x) ∧ w'.cell? ⟨b', o' + i, none⟩ = some (.float .f64 y)) := Lib.hid (fun w' hk =>
        ⟨slf_cell (H.out.keep (HK.out.then_ hk) (fun ⟨_, _, h⟩ => h)) (by rw [HN.out]; exact hlt) HX.out, slf_cell (H'.out.keep (HK.out.then_ hk) (fun ⟨_, _, h⟩ => h)) (by rw [HN'.out]; exact hlt) HY.out⟩)
      have HBX : Hid (∀ W, Calls Tryz.prog 34 #[.float .f64 x] W fun E w' => E = .returned (.int .u64 (u : Int)) ∧ Kept W w') := Lib.hid (fun W => by
        have h := rBits_ok x W
        rw [HU.out] at h
        exact h.mono (fun E w2 h => ⟨h.1, h.2 ▸ Keep.refl _ _⟩))
      have HBY : Hid (∀ W, Calls Tryz.prog 34 #[.float .f64 y] W fun E w' => E = .returned (.int .u64 (u : Int)) ∧ Kept W w') := Lib.hid (fun W => by
        have h := rBits_ok y W
        rw [HV.out] at h
        exact h.mono (fun E w2 h => ⟨h.1, h.2 ▸ Keep.refl _ _⟩))
      clear hln hln'
      go_upto_region 6 with (fail)
      refine wp_region_kept (by kernel_rfl) (by kernel_rfl) (QV.out ?_)
      repeat (first
        | (refine kq_skip (by rfl) (fun K hK => ?_); go_simp; refine hK _ ?_; clear hK K)
        | (refine kq_want (by rfl) (fun K hK => ?_); first
            | (refine BigFrame.quiet_move _ rfl ?_; go_simp; refine hK _ ?_; clear hK K)
            | (refine kq_still ?_ (fun w' hw' => ?_) ?_; rotate_left; (obtain ⟨c1, c2⟩ := HCE.out w' hw'; go_simp; first | done | exact rfl); go_simp; refine hK _ ?_; clear hK K)
            | (go_simp; apply Exists.intro; refine ⟨fun w' hw' => ?_, hK _ ?_⟩; (first | ((with_reducible refine (HBX.out w').mono ?_)) | ((with_reducible refine (HBY.out w').mono ?_))); rintro e w'' ⟨rfl, hk''⟩; exact ⟨rfl, hw'.then_ hk''⟩; clear hK K)))
      refine ⟨wpQuiet_nil ?_⟩
      intro w9 hk9
      have HK9 := Lib.hid (HK.out.then_ hk9)
      clear hk9
      go_wp2
      exact ⟨⟨i + 1, by omega, rfl, HK9⟩, by simp [intOf]; omega⟩
    · obtain rfl : i = n := by omega
      have hd : decide ((i : Int) < (i : Int)) = false := by rw [decide_eq_false_iff_not]; omega
      go_wp2
      go_ret
      exact ⟨rfl, HK.out⟩
theorem two_newF (w : World) (x y : Nat) (T : TypeId) : Sl EFl (w.alloc (.cells #[.float .f64 x, .float .f64 y] T)) (some ⟨w.heap.size, 0, none⟩) 2 [x, y] :=
  ⟨Nat.le_refl _, by decide, fun _ => ⟨_, _, rfl, range_alloc_new w _ T _ (fun j v hj => by simpa [El.flat_cons, El.flat_nil, EFl] using hj)⟩⟩
set_option maxRecDepth 100000 in
set_option maxHeartbeats 4000000 in
theorem lawC_ok (l1 l2 : List Nat) (A1 A2 : Option Addr) (n1 n2 c1 c2 : Nat) (hb1 : ∀ x ∈ l1, x < 18446744073709551616) (hb2 : ∀ x ∈ l2, x < 18446744073709551616) (hm1 : l1.length = n1) (hm2 : l2.length = n2) (hn1 : n1 ≤ 100000000) (hn2 : n2 ≤ 100000000) (B : Nat) (sa : Nat → Addr) (w : World) (g : GL B sa w) (h1 : Sl E64u w A1 c1 l1) (h2 : Sl E64u w A2 c2 l2) :
    Calls Tryz.prog 3 #[.slice A1 n1 c1, .slice A2 n2 c2] w fun E w' => E = .returned (.bool true) ∧ Keep nob w w' := by
  have HL1 := Lib.hid (lives25_ok B sa w g)
  have HF1 := Lib.hid (fun (W : World) (k : Keep nob w W) => floats25_ok l1 n1 c1 A1 W hm1 (by omega) (h1.keep k (fun ⟨_, _, h⟩ => h)))
  have HF2 := Lib.hid (fun (W : World) (k : Keep nob w W) => floats25_ok l2 n2 c2 A2 W hm2 (by omega) (h2.keep k (fun ⟨_, _, h⟩ => h)))
  have HM1 := Lib.hid hm1
  have HM2 := Lib.hid hm2
  have HB1 := Lib.hid hb1
  have HB2 := Lib.hid hb2
  have HG := Lib.hid (fun (W : World) (k : Keep nob w W) => g.keep k (fun _ h => h.elim))
  clear g h1 h2 hm1 hm2 hb1 hb2
  go_enter Tryz.func3, Tryz.ntmps3
  go_upto_region 5 with (first
    | (go_at_call 5; go_must (refine HL1.out.mono ?_); rintro E w1 ⟨rfl, hk1⟩; have HK1 := Lib.hid hk1; clear hk1)
    | ((with_reducible refine (HF1.out _ HK1.out).mono ?_); rintro E w2 ⟨hk2, X, cx, rfl, hx, -⟩; have HK2 := Lib.hid (HK1.out.then_ hk2); have HX := Lib.hid hx; clear hk2 hx)
    | ((with_reducible refine (HF2.out _ HK2.out).mono ?_); rintro E w3 ⟨hk3, Y, cy, rfl, hy, -⟩; have HK3 := Lib.hid (HK2.out.then_ hk3); have HX3 := Lib.hid (HX.out.keep hk3 (fun ⟨_, _, h⟩ => h)); have HY := Lib.hid hy; clear hk3 hy))
  obtain ⟨n, HNM⟩ : ∃ n, Hid (min n1 n2 = n) := ⟨_, Lib.hid rfl⟩
  have imin : min (n1 : Int) (n2 : Int) = (n : Int) := by rw [← HNM.out]; omega
  have HNN : Hid (n ≤ n1 ∧ n ≤ n2) := Lib.hid (by rw [← HNM.out]; omega)
  have hnle : n ≤ 100000000 := by have := HNN.out; omega
  obtain ⟨zs, HZS⟩ : ∃ zs, Hid (List.zip l1 l2 = zs) := ⟨_, Lib.hid rfl⟩
  have HZL : Hid (zs.length = n) := Lib.hid (by rw [← HZS.out, List.length_zip, HM1.out, HM2.out, HNM.out])
  have HZG : Hid (∀ i, i < n → zs.getD i (0, 0) = (l1.getD i 0, l2.getD i 0)) := by
    refine Lib.hid (fun i hi => ?_)
    have g1 : i < l1.length := by have := HNN.out; rw [HM1.out]; omega
    have g2 : i < l2.length := by have := HNN.out; rw [HM2.out]; omega
    rw [← HZS.out]
    simp [List.getD_eq_getElem?_getD, List.getElem?_eq_getElem g1, List.getElem?_eq_getElem g2, List.zip, List.getElem?_zipWith]
  have hleX := HX3.out.le
  have hcapX := HX3.out.cap
  have hleY := HY.out.le
  have hcapY := HY.out.cap
  rw [HM1.out] at hleX
  rw [HM2.out] at hleY
  go_wp2_with (fail)
  clear imin
  obtain ⟨m, HM⟩ : ∃ m, Hid (w3.heap.size = m) := ⟨_, Lib.hid rfl⟩
  go_loopw [8, 9] (fun u8 u9 wr => ∃ (i c : Nat) (A : Option Addr), i ≤ n ∧ u9 = .int .i64 (i : Int) ∧ u8 = .slice A i c ∧ Hid (Ow ECx wr A c (zs.take i)) ∧ Hid (∀ a, A = some a → m ≤ a.block) ∧ Hid (Keep nob w3 wr)) (fun _ u9 _ => n - (intOf u9).toNat)
  case atStart => exact ⟨0, 0, none, Nat.zero_le _, rfl, rfl, Lib.hid (Ow.nil_ ECx _ none), Lib.hid (fun _ h => by cases h), Lib.hid (Keep.refl _ _)⟩
  case round =>
    obtain ⟨i, c, A, hi, rfl, rfl, HO, HA, HK⟩ := hrel
    rcases Nat.lt_or_ge i n with hlt | hge
    · have d1 : decide ((i : Int) < (n : Int)) = true := by rw [decide_eq_true_iff]; omega
      have q0 : (0 : Int) ≤ (i : Int) := by omega
      have q1 : (i : Int) < (n1 : Int) := by have := HNN.out; omega
      have q2 : (i : Int) < (n2 : Int) := by have := HNN.out; omega
      have j5 : IntKind.i64.wrap ((i : Int) + 1) = (i : Int) + 1 := by rw [IntWalk.i64_left, IntWalk.wrap64_in _ ⟨by omega, by omega⟩]
      obtain ⟨x, HXX⟩ : ∃ x, Hid (l1.getD i 0 = x) := ⟨_, Lib.hid rfl⟩
      obtain ⟨y, HYY⟩ : ∃ y, Hid (l2.getD i 0 = y) := ⟨_, Lib.hid rfl⟩
      have hi1 : i < l1.length := by have := HNN.out; rw [HM1.out]; omega
      have hi2 : i < l2.length := by have := HNN.out; rw [HM2.out]; omega
      have hne1 : l1 ≠ [] := fun e => by rw [e] at hi1; simp at hi1
      have hne2 : l2 ≠ [] := fun e => by rw [e] at hi2; simp at hi2
      obtain ⟨ba, oa, rfl, -⟩ := HX3.out.at_ hne1
      obtain ⟨bb, ob, rfl, -⟩ := HY.out.at_ hne2
      have HCE : Hid (∀ w', Kept wr w' → w'.cell? ⟨ba, oa + i, none⟩ = some (.float .f64 x) ∧ w'.cell? ⟨bb, ob + i, none⟩ = some (.float .f64 y)) := Lib.hid (fun w' hk =>
        ⟨slf_cell (HX3.out.keep (HK.out.then_ hk) (fun ⟨_, _, h⟩ => h)) hi1 HXX.out, slf_cell (HY.out.keep (HK.out.then_ hk) (fun ⟨_, _, h⟩ => h)) hi2 HYY.out⟩)
      have HJN := Lib.hid (fun (W : World) => (rJoin_ok x y W).mono (R' := fun E w' => E = .returned (.complex .f64 x y) ∧ Kept W w') (fun E w2 h => ⟨h.1, h.2 ▸ Keep.refl _ _⟩))
      have HTK : Hid (zs.take (i + 1) = zs.take i ++ [(x, y)]) := Lib.hid (getD_take (by rw [HZL.out]; exact hlt) (by rw [HZG.out i hlt, HXX.out, HYY.out]))
      have HNL : Hid ((zs.take i).length = i) := Lib.hid (by rw [List.length_take, HZL.out]; omega)
      clear hi1 hi2 hne1 hne2
      go_upto_region 10 with (fail)
      refine wp_region_fx 11 [.p, .p, .p, .p, .kv, .p, .p, .p, .kv, .cv (.complex .f64 x y), .al] [] nob (fun _ => True) (fun _ _ _ _ => trivial) trivial (by kernel_rfl) (by kernel_rfl) (fun h => absurd rfl h) ?_
      simp only [List.take_succ_cons, List.take_zero, List.drop_succ_cons, List.drop_zero]
      refine fx_p ?_ (by rfl) (fun w' => ?_) (fun K hK => ?_); rotate_left; (go_simp; first | done | exact rfl); go_simp; refine hK _ ?_; clear hK K
      refine fx_p ?_ (by rfl) (fun w' => ?_) (fun K hK => ?_); rotate_left; (go_simp; first | done | exact rfl); go_simp; refine hK _ ?_; clear hK K
      refine fx_p ?_ (by rfl) (fun w' => ?_) (fun K hK => ?_); rotate_left; (go_simp; first | done | exact rfl); go_simp; refine hK _ ?_; clear hK K
      refine fx_p ?_ (by rfl) (fun w' => ?_) (fun K hK => ?_); rotate_left; (go_simp; first | done | exact rfl); go_simp; refine hK _ ?_; clear hK K
      refine fx_kv ?_ (by rfl) (fun w' hw' ha => ?_) (fun K hK => ?_); rotate_left; (obtain ⟨c1, c2⟩ := HCE.out w' hw'.keep; go_simp; first | done | exact rfl); go_simp; refine hK _ ?_; clear hK K
      refine fx_p ?_ (by rfl) (fun w' => ?_) (fun K hK => ?_); rotate_left; (go_simp; first | done | exact rfl); go_simp; refine hK _ ?_; clear hK K
      refine fx_p ?_ (by rfl) (fun w' => ?_) (fun K hK => ?_); rotate_left; (go_simp; first | done | exact rfl); go_simp; refine hK _ ?_; clear hK K
      refine fx_p ?_ (by rfl) (fun w' => ?_) (fun K hK => ?_); rotate_left; (go_simp; first | done | exact rfl); go_simp; refine hK _ ?_; clear hK K
      refine fx_kv ?_ (by rfl) (fun w' hw' ha => ?_) (fun K hK => ?_); rotate_left; (obtain ⟨c1, c2⟩ := HCE.out w' hw'.keep; go_simp; first | done | exact rfl); go_simp; refine hK _ ?_; clear hK K
      refine fx_cv (f := ?_) (args := ?_) (by rfl) (fun w' => ?_) (fun w' hw' ha => ?_) (fun K hK => ?_); rotate_left 2; (go_simp; first | done | (refine And.intro ?_ ?_ <;> exact rfl) | exact rfl); (exact HJN.out w'); go_simp; refine hK _ ?_; clear hK K
      refine fx_new (fun _ h => h.elim) (fun b => .slice (some ⟨b, 0, none⟩) 1 1) ?_ ?_ (by rfl) (fun w' hw' ha => ?_) (fun K hK ba' => ?_); rotate_left 2; (obtain ⟨c1, c2⟩ := HCE.out w' hw'.keep; go_simp; first | done | exact rfl); go_simp; refine hK _ _ ?_; clear hK K
      refine fx_nil ?_
      intro w9 hk9 hΓ
      have HK9 := Lib.hid hk9.keep
      have HFba' := Lib.hid (hΓ _ List.mem_cons_self)
      clear hk9 hΓ
      have HKT := Lib.hid (HK.out.then_ HK9.out)
      have HOw := Lib.hid (HO.out.keep HK9.out (fun ⟨_, _, h⟩ => h))
      have HSB : Hid (Sl ECx w9 (some ⟨ba', 0, none⟩) 1 [(x, y)]) := Lib.hid ⟨Nat.le_refl _, by decide, fun _ => ⟨ba', 0, rfl, by simpa [El.flat_cons, El.flat_nil, ECx] using HFba'.out.2.1⟩⟩
      go_wp2_with (at_builtin; refine wpList_append_ow ECx rfl _ _ 26 rfl 27 _ 16 Tryz.underlying26 infoC128 rfl A i c rfl (zs.take i) HNL.out HOw.out (some ⟨ba', 0, none⟩) 1 1 rfl [(x, y)] rfl HSB.out (by omega) (by omega) ?_; intro A' c' w6 hap; have HAP := Lib.hid hap; clear hap)
      have hap := HAP.out.ow
      rw [← HTK.out] at hap
      have hzk := HKT.out.size
      have hmm := HM.out
      refine ⟨⟨i + 1, c', A', hlt, rfl, rfl, Lib.hid hap, Lib.hid (fun a ha => ?_), Lib.hid (HKT.out.trans HAP.out.keep (fun j hj ⟨a, ha, hb⟩ => by have := HA.out a ha; omega))⟩, by simp [intOf]; omega⟩
      rcases HAP.out.lies a ha with ⟨a0, h0, h1⟩ | ⟨h1, _⟩
      · have := HA.out a0 h0; omega
      · omega
    · obtain rfl : i = n := by omega
      have d1 : decide ((i : Int) < (i : Int)) = false := by rw [decide_eq_false_iff_not]; omega
      have htk : zs.take i = zs := List.take_of_length_le (by rw [HZL.out]; exact Nat.le_refl _)
      rw [htk] at HO
      clear htk
      have HKW := Lib.hid (HK3.out.then_ HK.out)
      have HZ1 : Hid (∀ x ∈ zs.map (·.1), x < 18446744073709551616) := Lib.hid (fun x hx => by
        obtain ⟨z, hz, rfl⟩ := List.mem_map.1 hx
        rw [← HZS.out] at hz
        exact HB1.out _ (List.of_mem_zip hz).1)
      have HZ2 : Hid (∀ x ∈ zs.map (·.2), x < 18446744073709551616) := Lib.hid (fun x hx => by
        obtain ⟨z, hz, rfl⟩ := List.mem_map.1 hx
        rw [← HZS.out] at hz
        exact HB2.out _ (List.of_mem_zip hz).2)
      have HCX := Lib.hid (complexes_ok zs i c A B sa wr (HG.out wr HKW.out) HZL.out (by omega) HO.out.sl)
      go_upto_region 12 with (go_at_call 8; go_must (refine HCX.out.mono ?_); rintro E w4 ⟨hk4, r, rfl, ht4⟩; have HK4 := Lib.hid hk4; have HT4 := Lib.hid ht4; clear hk4 ht4; unfold ER)
      obtain ⟨x4, b4, HX4, HB4, HR4, HKX4, HLX4⟩ := boxed w4 r
      rw [show w4.alloc (.cells #[.int .i8 (r.kind : Int), .int .u64 (r.n : Int), .bool r.neg, .slice r.mA r.mL r.mC, .int .u64 (r.bits : Int), .int .i8 r.ext, .string r.text, .slice r.kA r.kL r.kC] 39) = x4 from HX4.out, HB4.out]
      have HKW4 := Lib.hid ((HKW.out.then_ HK4.out).then_ HKX4.out)
      have HTX := Lib.hid (Tr.keep HKX4.out (nobD _) _ _ HT4.out)
      have hl9 : (zs.map (·.1)).length ≤ 1000000000 := by rw [List.length_map, HZL.out]; omega
      have hl9' : (zs.map (·.2)).length ≤ 1000000000 := by rw [List.length_map, HZL.out]; omega
      have HTC := Lib.hid (tocomplexes_ok false false (zs.map (·.1)) (zs.map (·.2)) HZ1.out HZ2.out hl9 hl9' r _ B sa x4 (HG.out x4 HKW4.out) HTX.out)
      have HCK := Lib.hid (fun (W : World) (k : Keep nob x4 W) => cpxV_check hl9 hl9' (HG.out W (HKW4.out.then_ k)) (Tr.keep k (nobD _) _ _ HTX.out))
      have HTC2 : Hid (Calls Tryz.prog 9 #[ER.val r] x4 fun E w' => Keep nob x4 w' ∧ ∃ A c, E = .returned (.tuple #[.slice A i c, .nilIface]) ∧ Sl ECx w' A c (zs.map cc)) := Lib.hid (HTC.out.mono fun E w' h => by
        rcases h with ⟨_, h2, A, c, h3, h4, _⟩ | ⟨h1, _⟩
        · rw [List.length_map, HZL.out] at h3
          rw [show List.zip (zs.map (·.1)) (zs.map (·.2)) = zs by rw [List.zip_map']; simp] at h4
          exact ⟨h2, A, c, h3, h4⟩
        · exact absurd (by rw [List.length_map, List.length_map]) h1)
      simp only [ER] at HTC2 HCK
      obtain ⟨a0, a1, a2, a3, a4, a5, a6, a7⟩ := cells_val HR4.out
      clear hl9 hl9' HTC
      go_upto_region 13 with (go_at_call 9; go_must (refine HTC2.out.mono ?_); rintro E w5 ⟨hk5, K, ck, rfl, hs5⟩; have HK5 := Lib.hid hk5; have HS5 := Lib.hid hs5; clear hk5 hs5)
      clear a0 a1 a2 a3 a4 a5 a6 a7
      obtain ⟨a0, a1, a2, a3, a4, a5, a6, a7⟩ := cells_val (range_keep0 HK5.out HR4.out)
      have HKW5 := Lib.hid (HKW4.out.then_ HK5.out)
      have HX5 := Lib.hid (HX3.out.keep (((HK.out.then_ HK4.out).then_ HKX4.out).then_ HK5.out) (fun ⟨_, _, h⟩ => h))
      have HY5 := Lib.hid (HY.out.keep (((HK.out.then_ HK4.out).then_ HKX4.out).then_ HK5.out) (fun ⟨_, _, h⟩ => h))
      have hle5 := HS5.out.le
      have hcap5 := HS5.out.cap
      rw [List.length_map, HZL.out] at hle5
      go_upto_region 15 with (go_at_call 10; go_must (refine (HCK.out _ HK5.out).mono ?_); rintro E w6 ⟨rfl, hk6⟩; have HK6 := Lib.hid hk6; clear hk6)
      have HKW6 := Lib.hid (HKW5.out.then_ HK6.out)
      have HT15 := Lib.hid (tfloats_ok true l1 n1 cx X B sa w6 (HG.out w6 HKW6.out) HM1.out (HX5.out.keep HK6.out (fun ⟨_, _, h⟩ => h)) (by omega))
      clear a0 a1 a2 a3 a4 a5 a6 a7
      go_upto_region 16 with (go_at_call 11; go_must (refine HT15.out.mono ?_); rintro E w7 ⟨hk7, s, rfl, ht7⟩; have HK7 := Lib.hid hk7; have HT7 := Lib.hid ht7; clear hk7 ht7; unfold ER)
      obtain ⟨x7, b7, HX7, HB7, HR7, HKX7, HLX7⟩ := boxed w7 s
      rw [show w7.alloc (.cells #[.int .i8 (s.kind : Int), .int .u64 (s.n : Int), .bool s.neg, .slice s.mA s.mL s.mC, .int .u64 (s.bits : Int), .int .i8 s.ext, .string s.text, .slice s.kA s.kL s.kC] 39) = x7 from HX7.out, HB7.out]
      have HK67 := Lib.hid ((HK6.out.then_ HK7.out).then_ HKX7.out)
      have HKW7 := Lib.hid (HKW5.out.then_ HK67.out)
      have HT16 := Lib.hid (tfloats_ok false l2 n2 cy Y B sa x7 (HG.out x7 HKW7.out) HM2.out (HY5.out.keep HK67.out (fun ⟨_, _, h⟩ => h)) (by omega))
      go_upto_region 17 with (go_at_call 11; go_must (refine HT16.out.mono ?_); rintro E w8 ⟨hk8, t, rfl, ht8⟩; have HK8 := Lib.hid hk8; have HT8 := Lib.hid ht8; clear hk8 ht8; unfold ER)
      obtain ⟨x8, b8, HX8, HB8, HR8, HKX8, HLX8⟩ := boxed w8 t
      rw [show w8.alloc (.cells #[.int .i8 (t.kind : Int), .int .u64 (t.n : Int), .bool t.neg, .slice t.mA t.mL t.mC, .int .u64 (t.bits : Int), .int .i8 t.ext, .string t.text, .slice t.kA t.kL t.kC] 39) = x8 from HX8.out, HB8.out]
      have HK78 := Lib.hid (HK8.out.then_ HKX8.out)
      have HKW8 := Lib.hid (HKW7.out.then_ HK78.out)
      obtain ⟨a0, a1, a2, a3, a4, a5, a6, a7⟩ := cells_val (range_keep0 HK78.out HR7.out)
      obtain ⟨e0, e1, e2, e3, e4, e5, e6, e7⟩ := cells_val HR8.out
      have HS9 : Hid (Sl ER (x8.alloc (.cells #[.int .i8 (s.kind : Int), .int .u64 (s.n : Int), .bool s.neg, .slice s.mA s.mL s.mC, .int .u64 (s.bits : Int), .int .i8 s.ext, .string s.text, .slice s.kA s.kL s.kC, .int .i8 (t.kind : Int), .int .u64 (t.n : Int), .bool t.neg, .slice t.mA t.mL t.mC, .int .u64 (t.bits : Int), .int .i8 t.ext, .string t.text, .slice t.kA t.kL t.kC] 39)) (some ⟨x8.heap.size, 0, none⟩) 2 [s, t]) := Lib.hid (two_sl x8 s t 39)
      have HK9 : Hid (Keep nob x8 (x8.alloc (.cells #[.int .i8 (s.kind : Int), .int .u64 (s.n : Int), .bool s.neg, .slice s.mA s.mL s.mC, .int .u64 (s.bits : Int), .int .i8 s.ext, .string s.text, .slice s.kA s.kL s.kC, .int .i8 (t.kind : Int), .int .u64 (t.n : Int), .bool t.neg, .slice t.mA t.mL t.mC, .int .u64 (t.bits : Int), .int .i8 t.ext, .string t.text, .slice t.kA t.kL t.kC] 39))) := Lib.hid ((Keep.refl _ _).alloc _)
      obtain ⟨x9, HX9⟩ : ∃ x9, Hid (x8.alloc (.cells #[.int .i8 (s.kind : Int), .int .u64 (s.n : Int), .bool s.neg, .slice s.mA s.mL s.mC, .int .u64 (s.bits : Int), .int .i8 s.ext, .string s.text, .slice s.kA s.kL s.kC, .int .i8 (t.kind : Int), .int .u64 (t.n : Int), .bool t.neg, .slice t.mA t.mL t.mC, .int .u64 (t.bits : Int), .int .i8 t.ext, .string t.text, .slice t.kA t.kL t.kC] 39) = x9) := ⟨_, Lib.hid rfl⟩
      rw [HX9.out] at HS9 HK9
      have HKW9 := Lib.hid (HKW8.out.then_ HK9.out)
      have HTR9 : Hid (Tr x9 (fun _ => True) ⟨7, 0, false, none, 0, 0, 0, 0, ⟨#[]⟩, some ⟨x8.heap.size, 0, none⟩, 2, 2⟩ (cpxV true false l1 l2)) := Lib.hid
        ⟨rfl, rfl, rfl, rfl, rfl, rfl, ⟨rfl, Sl.nil_ EU _ none (Nat.zero_le _), fun h => absurd rfl h⟩, [s, t], rfl, HS9.out, fun _ => ⟨_, rfl, trivial⟩, Tr.mono (fun _ _ _ => trivial) _ _ (Tr.keep ((HKX7.out.then_ HK78.out).then_ HK9.out) (nobD _) _ _ HT7.out), Tr.mono (fun _ _ _ => trivial) _ _ (Tr.keep (HKX8.out.then_ HK9.out) (nobD _) _ _ HT8.out), trivial⟩
      have HTM := Lib.hid (tocomplexes_ok true false l1 l2 HB1.out HB2.out (by rw [HM1.out]; omega) (by rw [HM2.out]; omega) _ _ B sa x9 (HG.out x9 HKW9.out) HTR9.out)
      simp only [ER, Int.cast_ofNat_Int] at HTM
      by_cases hnn : n1 = n2
      · have HTM2 : Hid (Calls Tryz.prog 9 #[.agg #[.int .i8 7, .int .u64 0, .bool false, .slice none 0 0, .int .u64 0, .int .i8 0, .string ⟨#[]⟩, .slice (some ⟨x8.heap.size, 0, none⟩) 2 2]] x9 fun E w' => Keep nob x9 w' ∧ ∃ A c, E = .returned (.tuple #[.slice A i c, .nilIface]) ∧ Sl ECx w' A c (zs.map cc)) := Lib.hid (HTM.out.mono fun E w' h => by
          rcases h with ⟨_, h2, A, c, h3, h4, _⟩ | ⟨h1, _⟩
          · rw [HM1.out, show n1 = i by rw [← HNM.out]; omega] at h3
            rw [HZS.out] at h4
            exact ⟨h2, A, c, h3, h4⟩
          · exact absurd (by rw [HM1.out, HM2.out]; exact hnn) h1)
        clear HTM
        have e1 : i = n1 := by rw [← HNM.out]; omega
        have e2 : i = n2 := by rw [← HNM.out]; omega
        subst e1
        subst e2
        go_upto_region 18 with (go_at_call 9; rw [HX9.out]; go_must (refine HTM2.out.mono ?_); rintro E w10 ⟨hk10, M, cm, rfl, hs10⟩; have HK10 := Lib.hid hk10; have HM10 := Lib.hid hs10; clear hk10 hs10)
        have HK5X := Lib.hid (((HK67.out.then_ HK78.out).then_ HK9.out).then_ HK10.out)
        have HX10 := Lib.hid (HX5.out.keep HK5X.out (fun ⟨_, _, h⟩ => h))
        have HY10 := Lib.hid (HY5.out.keep HK5X.out (fun ⟨_, _, h⟩ => h))
        have HS10 := Lib.hid (HS5.out.keep HK5X.out (fun ⟨_, _, h⟩ => h))
        have HKW10 := Lib.hid (HKW5.out.then_ HK5X.out)
        have hle10 := HM10.out.le
        have hcap10 := HM10.out.cap
        rw [List.length_map, HZL.out] at hle10
        clear a0 a1 a2 a3 a4 a5 a6 a7 e0 e1 e2 e3 e4 e5 e6 e7
        go_wp2_with (fail)
        go_loopw [19] (fun u19 ws => ∃ j : Nat, j ≤ i ∧ u19 = .int .i64 (j : Int) ∧ Hid (Keep nob w10 ws)) (fun u19 _ => i - (intOf u19).toNat)
        case atStart => exact ⟨0, Nat.zero_le _, rfl, Lib.hid (Keep.refl _ _)⟩
        case round =>
          obtain ⟨j, hj, rfl, HKS⟩ := hrel
          rcases Nat.lt_or_ge j i with hlt | hge
          · have d2 : decide ((j : Int) < (i : Int)) = true := by rw [decide_eq_true_iff]; omega
            have q0 : (0 : Int) ≤ (j : Int) := by omega
            have q1 : (j : Int) < (i : Int) := by omega
            have j6 : IntKind.i64.wrap ((j : Int) + 1) = (j : Int) + 1 := by rw [IntWalk.i64_left, IntWalk.wrap64_in _ ⟨by omega, by omega⟩]
            obtain ⟨x, HXX⟩ : ∃ x, Hid (l1.getD j 0 = x) := ⟨_, Lib.hid rfl⟩
            obtain ⟨y, HYY⟩ : ∃ y, Hid (l2.getD j 0 = y) := ⟨_, Lib.hid rfl⟩
            have hi1 : j < l1.length := by have := HNN.out; rw [HM1.out]; omega
            have hi2 : j < l2.length := by have := HNN.out; rw [HM2.out]; omega
            have hi3 : j < (zs.map cc).length := by rw [List.length_map, HZL.out]; exact hlt
            have hz3 : (zs.map cc).getD j (0, 0) = (canon x, canon y) := by
              have := HZG.out j hlt
              rw [HXX.out, HYY.out] at this
              rw [List.length_map] at hi3
              rw [List.getD_eq_getElem?_getD, List.getElem?_eq_getElem hi3] at this
              rw [List.getD_eq_getElem?_getD, List.getElem?_map, List.getElem?_eq_getElem hi3]
              simp only [Option.getD_some] at this
              simp only [Option.map_some, Option.getD_some, this, cc]
            have hne1 : l1 ≠ [] := fun e => by rw [e] at hi1; simp at hi1
            have hne2 : l2 ≠ [] := fun e => by rw [e] at hi2; simp at hi2
            have hne3 : zs.map cc ≠ [] := fun e => by rw [e] at hi3; simp at hi3
            obtain ⟨ba, oa, rfl, -⟩ := HX10.out.at_ hne1
            obtain ⟨bb, ob, rfl, -⟩ := HY10.out.at_ hne2
            obtain ⟨bk, ok, rfl, -⟩ := HS10.out.at_ hne3
            have hi4 : zs.map cc ≠ [] := hne3
            obtain ⟨bm, om, rfl, -⟩ := HM10.out.at_ hi4
            clear hi4
            have HCE : Hid (∀ w', Kept wr w' → w'.cell? ⟨ba, oa + j, none⟩ = some (.float .f64 x) ∧ w'.cell? ⟨bb, ob + j, none⟩ = some (.float .f64 y) ∧ w'.cell? ⟨bk, ok + j, none⟩ = some (.complex .f64 (canon x) (canon y)) ∧ w'.cell? ⟨bm, om + j, none⟩ = some (.complex .f64 (canon x) (canon y))) := Lib.hid (fun w' hk =>
              ⟨slf_cell (HX10.out.keep (HKS.out.then_ hk) (fun ⟨_, _, h⟩ => h)) hi1 HXX.out, slf_cell (HY10.out.keep (HKS.out.then_ hk) (fun ⟨_, _, h⟩ => h)) hi2 HYY.out, slc_cell (HS10.out.keep (HKS.out.then_ hk) (fun ⟨_, _, h⟩ => h)) hi3 hz3, slc_cell (HM10.out.keep (HKS.out.then_ hk) (fun ⟨_, _, h⟩ => h)) hi3 hz3⟩)
            have HSP := Lib.hid (fun (W : World) => (rSplit_ok (canon x) (canon y) W).mono (R' := fun E w' => E = .returned (.tuple #[.float .f64 (canon x), .float .f64 (canon y)]) ∧ Kept W w') (fun E w2 h => ⟨h.1, h.2 ▸ Keep.refl _ _⟩))
            have HSC := Lib.hid (fun (W : World) => (rSameC_ok (canon x) (canon y) (canon x) (canon y) rfl rfl W).mono (R' := fun E w' => E = .returned (.bool true) ∧ Kept W w') (fun E w2 h => ⟨h.1, h.2 ▸ Keep.refl _ _⟩))
            have HSM := Lib.hid (fun (W : World) (b c : Nat) (h : Sl EFl W (some ⟨b, 0, none⟩) 2 [canon x, canon y]) (h' : Sl EFl W (some ⟨c, 0, none⟩) 2 [x, y]) => same25_ok (some ⟨b, 0, none⟩) (some ⟨c, 0, none⟩) 2 2 2 [canon x, canon y] [x, y] W rfl rfl (fun k hk => by
              match k, hk with
              | 0, _ => exact canon_canon x
              | 1, _ => exact canon_canon y) h h')
            clear hi1 hi2 hi3 hz3 hne1 hne2 hne3
            obtain ⟨xc, HXC⟩ : ∃ xc, Hid (canon x = xc) := ⟨_, Lib.hid rfl⟩
            obtain ⟨yc, HYC⟩ : ∃ yc, Hid (canon y = yc) := ⟨_, Lib.hid rfl⟩
            rw [HXC.out, HYC.out] at HCE HSP HSC HSM
            obtain ⟨f1, f2, f3, f4⟩ := HCE.out wr (Keep.refl _ _)
            go_upto_region 24 with ((with_reducible refine (HSP.out _).mono ?_); rintro E ws1 ⟨rfl, hks1⟩; have HKS1 := Lib.hid hks1; clear hks1)
            clear f1 f2 f3
            refine wp_region_fx 14 [.p, .p, .al, .p, .p, .p, .kv, .p, .p, .p, .kv, .al, .cv (.bool true), .p] [] nob (fun _ => True) (fun _ _ _ _ => trivial) trivial (by kernel_rfl) (by kernel_rfl) (fun h => absurd rfl h) ?_
            simp only [List.take_succ_cons, List.take_zero, List.drop_succ_cons, List.drop_zero]
            refine fx_p ?_ (by rfl) (fun w' => ?_) (fun K hK => ?_); rotate_left; (go_simp; first | done | exact rfl); go_simp; refine hK _ ?_; clear hK K
            refine fx_p ?_ (by rfl) (fun w' => ?_) (fun K hK => ?_); rotate_left; (go_simp; first | done | exact rfl); go_simp; refine hK _ ?_; clear hK K
            refine fx_new (fun _ h => h.elim) (fun b => .slice (some ⟨b, 0, none⟩) 2 2) ?_ ?_ (by rfl) (fun w' hw' ha => ?_) (fun K hK b3 => ?_); rotate_left 2; (obtain ⟨f1, f2, f3, f4⟩ := HCE.out w' (HKS1.out.then_ hw'.keep); go_simp; first | done | exact rfl); go_simp; refine hK _ _ ?_; clear hK K
            refine fx_p ?_ (by rfl) (fun w' => ?_) (fun K hK => ?_); rotate_left; (go_simp; first | done | exact rfl); go_simp; refine hK _ ?_; clear hK K
            refine fx_p ?_ (by rfl) (fun w' => ?_) (fun K hK => ?_); rotate_left; (go_simp; first | done | exact rfl); go_simp; refine hK _ ?_; clear hK K
            refine fx_p ?_ (by rfl) (fun w' => ?_) (fun K hK => ?_); rotate_left; (go_simp; first | done | exact rfl); go_simp; refine hK _ ?_; clear hK K
            refine fx_kv ?_ (by rfl) (fun w' hw' ha => ?_) (fun K hK => ?_); rotate_left; (obtain ⟨f1, f2, f3, f4⟩ := HCE.out w' (HKS1.out.then_ hw'.keep); go_simp; first | done | exact rfl); go_simp; refine hK _ ?_; clear hK K
            refine fx_p ?_ (by rfl) (fun w' => ?_) (fun K hK => ?_); rotate_left; (go_simp; first | done | exact rfl); go_simp; refine hK _ ?_; clear hK K
            refine fx_p ?_ (by rfl) (fun w' => ?_) (fun K hK => ?_); rotate_left; (go_simp; first | done | exact rfl); go_simp; refine hK _ ?_; clear hK K
            refine fx_p ?_ (by rfl) (fun w' => ?_) (fun K hK => ?_); rotate_left; (go_simp; first | done | exact rfl); go_simp; refine hK _ ?_; clear hK K
            refine fx_kv ?_ (by rfl) (fun w' hw' ha => ?_) (fun K hK => ?_); rotate_left; (obtain ⟨f1, f2, f3, f4⟩ := HCE.out w' (HKS1.out.then_ hw'.keep); go_simp; first | done | exact rfl); go_simp; refine hK _ ?_; clear hK K
            refine fx_new (fun _ h => h.elim) (fun b => .slice (some ⟨b, 0, none⟩) 2 2) ?_ ?_ (by rfl) (fun w' hw' ha => ?_) (fun K hK b4 => ?_); rotate_left 2; (obtain ⟨f1, f2, f3, f4⟩ := HCE.out w' (HKS1.out.then_ hw'.keep); go_simp; first | done | exact rfl); go_simp; refine hK _ _ ?_; clear hK K
            refine fx_cv (f := ?_) (args := ?_) (by rfl) (fun w' => ?_) (fun w' hw' ha => ?_) (fun K hK => ?_); rotate_left 2; (go_simp; first | done | (refine And.intro ?_ ?_ <;> exact rfl) | exact rfl); (have hx1 := ha _ (List.mem_cons_of_mem _ List.mem_cons_self) (by kernel_rfl); have hx2 := ha _ List.mem_cons_self (by kernel_rfl); exact HSM.out w' b3 b4 ⟨Nat.le_refl _, by decide, fun _ => ⟨b3, 0, rfl, by simpa [El.flat_cons, El.flat_nil, EFl] using hx1.2.1⟩⟩ ⟨Nat.le_refl _, by decide, fun _ => ⟨b4, 0, rfl, by simpa [El.flat_cons, El.flat_nil, EFl] using hx2.2.1⟩⟩); go_simp; refine hK _ ?_; clear hK K
            refine fx_p ?_ (by rfl) (fun w' => ?_) (fun K hK => ?_); rotate_left; (go_simp; first | done | exact rfl); go_simp; refine hK _ ?_; clear hK K
            refine fx_nil ?_
            intro ws2 hk9 hΓ
            have HKS9 := Lib.hid hk9.keep
            have HFb3 := Lib.hid (hΓ _ (List.mem_cons_of_mem _ List.mem_cons_self))
            have HFb4 := Lib.hid (hΓ _ List.mem_cons_self)
            clear hk9 hΓ
            have HKS2 := Lib.hid ((HKS.out.then_ HKS1.out).then_ HKS9.out)
            have HKT2 := Lib.hid (HKS1.out.then_ HKS9.out)
            go_upto_region 26 with (fail)
            refine wp_region_kept (by kernel_rfl) (by kernel_rfl) (QV.out ?_)
            repeat (first
              | (refine kq_skip (by rfl) (fun K hK => ?_); go_simp; refine hK _ ?_; clear hK K)
              | (refine kq_want (by rfl) (fun K hK => ?_); first
                  | (refine BigFrame.quiet_move _ rfl ?_; go_simp; refine hK _ ?_; clear hK K)
                  | (refine kq_still ?_ (fun w' hw' => ?_) ?_; rotate_left; (obtain ⟨f1, f2, f3, f4⟩ := HCE.out w' (HKT2.out.then_ hw'); go_simp; first | done | exact rfl); go_simp; refine hK _ ?_; clear hK K)
                  | (go_simp; apply Exists.intro; refine ⟨fun w' hw' => ?_, hK _ ?_⟩; (first | ((with_reducible refine (HSC.out w').mono ?_))); rintro e w'' ⟨rfl, hk''⟩; exact ⟨rfl, hw'.then_ hk''⟩; clear hK K)))
            refine ⟨wpQuiet_nil ?_⟩
            intro ws3 hks3
            have HKS3 := Lib.hid (HKS2.out.then_ hks3)
            clear hks3
            go_wp2
            exact ⟨⟨j + 1, by omega, rfl, HKS3⟩, by simp [intOf]; omega⟩
          · obtain rfl : j = i := by omega
            have d2 : decide ((j : Int) < (j : Int)) = false := by rw [decide_eq_false_iff_not]; omega
            go_wp2
            go_ret
            exact ⟨rfl, HKW10.out.then_ HKS.out⟩
      · have HTM2 : Hid (Calls Tryz.prog 9 #[.agg #[.int .i8 7, .int .u64 0, .bool false, .slice none 0 0, .int .u64 0, .int .i8 0, .string ⟨#[]⟩, .slice (some ⟨x8.heap.size, 0, none⟩) 2 2]] x9 fun E w' => Keep nob x9 w' ∧ ∃ pb D, E = .returned (.tuple #[.slice none 0 0, .iface 73 (.pointer (some ⟨pb, 0, none⟩))]) ∧ PErr sa w' D (.iface 73 (.pointer (some ⟨pb, 0, none⟩))) 4 0 ⟨#[47, 49]⟩) := Lib.hid (HTM.out.mono fun E w' h => by
          rcases h with ⟨h1, _⟩ | ⟨_, h2, ev, h3, hp⟩
          · exact absurd (by rw [← HM1.out, ← HM2.out]; exact h1) hnn
          · obtain ⟨pb, rfl, h5⟩ := hp
            exact ⟨h2, pb, _, h3, pb, rfl, h5⟩)
        clear HTM
        have dn : ((n1 : Int) == (n2 : Int)) = false := by rw [beq_eq_false_iff_ne]; omega
        go_upto_region 18 with (go_at_call 9; rw [HX9.out]; go_must (refine HTM2.out.mono ?_); rintro E w10 ⟨hk10, pb, D, rfl, hp10⟩; have HK10 := Lib.hid hk10; have HP10 := Lib.hid hp10; clear hk10 hp10)
        have HK5X := Lib.hid (((HK67.out.then_ HK78.out).then_ HK9.out).then_ HK10.out)
        have HX10 := Lib.hid (HX5.out.keep HK5X.out (fun ⟨_, _, h⟩ => h))
        have HY10 := Lib.hid (HY5.out.keep HK5X.out (fun ⟨_, _, h⟩ => h))
        have HS10 := Lib.hid (HS5.out.keep HK5X.out (fun ⟨_, _, h⟩ => h))
        have HKW10a := Lib.hid (HKW5.out.then_ HK5X.out)
        have HIP := Lib.hid (ispath_ok (HG.out w10 HKW10a.out) HP10.out)
        clear a0 a1 a2 a3 a4 a5 a6 a7 e0 e1 e2 e3 e4 e5 e6 e7
        go_wp2_with (go_at_call 12; go_must (refine HIP.out.mono ?_); rintro E w11 ⟨rfl, hk11⟩; have HK11 := Lib.hid hk11; clear hk11)
        replace HX10 := Lib.hid (HX10.out.keep HK11.out (fun ⟨_, _, h⟩ => h))
        replace HY10 := Lib.hid (HY10.out.keep HK11.out (fun ⟨_, _, h⟩ => h))
        replace HS10 := Lib.hid (HS10.out.keep HK11.out (fun ⟨_, _, h⟩ => h))
        have HKW10 := Lib.hid (HKW10a.out.then_ HK11.out)
        go_loopw [19] (fun u19 ws => ∃ j : Nat, j ≤ i ∧ u19 = .int .i64 (j : Int) ∧ Hid (Keep nob w11 ws)) (fun u19 _ => i - (intOf u19).toNat)
        case atStart => exact ⟨0, Nat.zero_le _, rfl, Lib.hid (Keep.refl _ _)⟩
        case round =>
          obtain ⟨j, hj, rfl, HKS⟩ := hrel
          rcases Nat.lt_or_ge j i with hlt | hge
          · have d2 : decide ((j : Int) < (i : Int)) = true := by rw [decide_eq_true_iff]; omega
            have q0 : (0 : Int) ≤ (j : Int) := by omega
            have q1 : (j : Int) < (i : Int) := by omega
            have q2 : (j : Int) < (n1 : Int) := by have := HNN.out; omega
            have q3 : (j : Int) < (n2 : Int) := by have := HNN.out; omega
            have j6 : IntKind.i64.wrap ((j : Int) + 1) = (j : Int) + 1 := by rw [IntWalk.i64_left, IntWalk.wrap64_in _ ⟨by omega, by omega⟩]
            obtain ⟨x, HXX⟩ : ∃ x, Hid (l1.getD j 0 = x) := ⟨_, Lib.hid rfl⟩
            obtain ⟨y, HYY⟩ : ∃ y, Hid (l2.getD j 0 = y) := ⟨_, Lib.hid rfl⟩
            have hi1 : j < l1.length := by have := HNN.out; rw [HM1.out]; omega
            have hi2 : j < l2.length := by have := HNN.out; rw [HM2.out]; omega
            have hi3 : j < (zs.map cc).length := by rw [List.length_map, HZL.out]; exact hlt
            have hz3 : (zs.map cc).getD j (0, 0) = (canon x, canon y) := by
              have := HZG.out j hlt
              rw [HXX.out, HYY.out] at this
              rw [List.length_map] at hi3
              rw [List.getD_eq_getElem?_getD, List.getElem?_eq_getElem hi3] at this
              rw [List.getD_eq_getElem?_getD, List.getElem?_map, List.getElem?_eq_getElem hi3]
              simp only [Option.getD_some] at this
              simp only [Option.map_some, Option.getD_some, this, cc]
            have hne1 : l1 ≠ [] := fun e => by rw [e] at hi1; simp at hi1
            have hne2 : l2 ≠ [] := fun e => by rw [e] at hi2; simp at hi2
            have hne3 : zs.map cc ≠ [] := fun e => by rw [e] at hi3; simp at hi3
            obtain ⟨ba, oa, rfl, -⟩ := HX10.out.at_ hne1
            obtain ⟨bb, ob, rfl, -⟩ := HY10.out.at_ hne2
            obtain ⟨bk, ok, rfl, -⟩ := HS10.out.at_ hne3
            have HCE : Hid (∀ w', Kept wr w' → w'.cell? ⟨ba, oa + j, none⟩ = some (.float .f64 x) ∧ w'.cell? ⟨bb, ob + j, none⟩ = some (.float .f64 y) ∧ w'.cell? ⟨bk, ok + j, none⟩ = some (.complex .f64 (canon x) (canon y))) := Lib.hid (fun w' hk =>
              ⟨slf_cell (HX10.out.keep (HKS.out.then_ hk) (fun ⟨_, _, h⟩ => h)) hi1 HXX.out, slf_cell (HY10.out.keep (HKS.out.then_ hk) (fun ⟨_, _, h⟩ => h)) hi2 HYY.out, slc_cell (HS10.out.keep (HKS.out.then_ hk) (fun ⟨_, _, h⟩ => h)) hi3 hz3⟩)
            have HSP := Lib.hid (fun (W : World) => (rSplit_ok (canon x) (canon y) W).mono (R' := fun E w' => E = .returned (.tuple #[.float .f64 (canon x), .float .f64 (canon y)]) ∧ Kept W w') (fun E w2 h => ⟨h.1, h.2 ▸ Keep.refl _ _⟩))
            have HSC := Lib.hid (fun (W : World) => (rSameC_ok (canon x) (canon y) (canon x) (canon y) rfl rfl W).mono (R' := fun E w' => E = .returned (.bool true) ∧ Kept W w') (fun E w2 h => ⟨h.1, h.2 ▸ Keep.refl _ _⟩))
            have HSM := Lib.hid (fun (W : World) (b c : Nat) (h : Sl EFl W (some ⟨b, 0, none⟩) 2 [canon x, canon y]) (h' : Sl EFl W (some ⟨c, 0, none⟩) 2 [x, y]) => same25_ok (some ⟨b, 0, none⟩) (some ⟨c, 0, none⟩) 2 2 2 [canon x, canon y] [x, y] W rfl rfl (fun k hk => by
              match k, hk with
              | 0, _ => exact canon_canon x
              | 1, _ => exact canon_canon y) h h')
            clear hi1 hi2 hi3 hz3 hne1 hne2 hne3
            obtain ⟨xc, HXC⟩ : ∃ xc, Hid (canon x = xc) := ⟨_, Lib.hid rfl⟩
            obtain ⟨yc, HYC⟩ : ∃ yc, Hid (canon y = yc) := ⟨_, Lib.hid rfl⟩
            rw [HXC.out, HYC.out] at HCE HSP HSC HSM
            obtain ⟨f1, f2, f3⟩ := HCE.out wr (Keep.refl _ _)
            go_upto_region 24 with ((with_reducible refine (HSP.out _).mono ?_); rintro E ws1 ⟨rfl, hks1⟩; have HKS1 := Lib.hid hks1; clear hks1)
            clear f1 f2 f3
            refine wp_region_fx 14 [.p, .p, .al, .p, .p, .p, .kv, .p, .p, .p, .kv, .al, .cv (.bool true), .p] [] nob (fun _ => True) (fun _ _ _ _ => trivial) trivial (by kernel_rfl) (by kernel_rfl) (fun h => absurd rfl h) ?_
            simp only [List.take_succ_cons, List.take_zero, List.drop_succ_cons, List.drop_zero]
            refine fx_p ?_ (by rfl) (fun w' => ?_) (fun K hK => ?_); rotate_left; (go_simp; first | done | exact rfl); go_simp; refine hK _ ?_; clear hK K
            refine fx_p ?_ (by rfl) (fun w' => ?_) (fun K hK => ?_); rotate_left; (go_simp; first | done | exact rfl); go_simp; refine hK _ ?_; clear hK K
            refine fx_new (fun _ h => h.elim) (fun b => .slice (some ⟨b, 0, none⟩) 2 2) ?_ ?_ (by rfl) (fun w' hw' ha => ?_) (fun K hK b3 => ?_); rotate_left 2; (obtain ⟨f1, f2, f3⟩ := HCE.out w' (HKS1.out.then_ hw'.keep); go_simp; first | done | exact rfl); go_simp; refine hK _ _ ?_; clear hK K
            refine fx_p ?_ (by rfl) (fun w' => ?_) (fun K hK => ?_); rotate_left; (go_simp; first | done | exact rfl); go_simp; refine hK _ ?_; clear hK K
            refine fx_p ?_ (by rfl) (fun w' => ?_) (fun K hK => ?_); rotate_left; (go_simp; first | done | exact rfl); go_simp; refine hK _ ?_; clear hK K
            refine fx_p ?_ (by rfl) (fun w' => ?_) (fun K hK => ?_); rotate_left; (go_simp; first | done | exact rfl); go_simp; refine hK _ ?_; clear hK K
            refine fx_kv ?_ (by rfl) (fun w' hw' ha => ?_) (fun K hK => ?_); rotate_left; (obtain ⟨f1, f2, f3⟩ := HCE.out w' (HKS1.out.then_ hw'.keep); go_simp; first | done | exact rfl); go_simp; refine hK _ ?_; clear hK K
            refine fx_p ?_ (by rfl) (fun w' => ?_) (fun K hK => ?_); rotate_left; (go_simp; first | done | exact rfl); go_simp; refine hK _ ?_; clear hK K
            refine fx_p ?_ (by rfl) (fun w' => ?_) (fun K hK => ?_); rotate_left; (go_simp; first | done | exact rfl); go_simp; refine hK _ ?_; clear hK K
            refine fx_p ?_ (by rfl) (fun w' => ?_) (fun K hK => ?_); rotate_left; (go_simp; first | done | exact rfl); go_simp; refine hK _ ?_; clear hK K
            refine fx_kv ?_ (by rfl) (fun w' hw' ha => ?_) (fun K hK => ?_); rotate_left; (obtain ⟨f1, f2, f3⟩ := HCE.out w' (HKS1.out.then_ hw'.keep); go_simp; first | done | exact rfl); go_simp; refine hK _ ?_; clear hK K
            refine fx_new (fun _ h => h.elim) (fun b => .slice (some ⟨b, 0, none⟩) 2 2) ?_ ?_ (by rfl) (fun w' hw' ha => ?_) (fun K hK b4 => ?_); rotate_left 2; (obtain ⟨f1, f2, f3⟩ := HCE.out w' (HKS1.out.then_ hw'.keep); go_simp; first | done | exact rfl); go_simp; refine hK _ _ ?_; clear hK K
            refine fx_cv (f := ?_) (args := ?_) (by rfl) (fun w' => ?_) (fun w' hw' ha => ?_) (fun K hK => ?_); rotate_left 2; (go_simp; first | done | (refine And.intro ?_ ?_ <;> exact rfl) | exact rfl); (have hx1 := ha _ (List.mem_cons_of_mem _ List.mem_cons_self) (by kernel_rfl); have hx2 := ha _ List.mem_cons_self (by kernel_rfl); exact HSM.out w' b3 b4 ⟨Nat.le_refl _, by decide, fun _ => ⟨b3, 0, rfl, by simpa [El.flat_cons, El.flat_nil, EFl] using hx1.2.1⟩⟩ ⟨Nat.le_refl _, by decide, fun _ => ⟨b4, 0, rfl, by simpa [El.flat_cons, El.flat_nil, EFl] using hx2.2.1⟩⟩); go_simp; refine hK _ ?_; clear hK K
            refine fx_p ?_ (by rfl) (fun w' => ?_) (fun K hK => ?_); rotate_left; (go_simp; first | done | exact rfl); go_simp; refine hK _ ?_; clear hK K
            refine fx_nil ?_
            intro ws2 hk9 hΓ
            have HKS9 := Lib.hid hk9.keep
            have HFb3 := Lib.hid (hΓ _ (List.mem_cons_of_mem _ List.mem_cons_self))
            have HFb4 := Lib.hid (hΓ _ List.mem_cons_self)
            clear hk9 hΓ
            have HKS2 := Lib.hid ((HKS.out.then_ HKS1.out).then_ HKS9.out)
            have HKT2 := Lib.hid (HKS1.out.then_ HKS9.out)
            go_upto_region 26 with (fail)
            refine wp_region_kept (by kernel_rfl) (by kernel_rfl) (QV.out ?_)
            repeat (first
              | (refine kq_skip (by rfl) (fun K hK => ?_); go_simp; refine hK _ ?_; clear hK K)
              | (refine kq_want (by rfl) (fun K hK => ?_); first
                  | (refine BigFrame.quiet_move _ rfl ?_; go_simp; refine hK _ ?_; clear hK K)
                  | (refine kq_still ?_ (fun w' hw' => ?_) ?_; rotate_left; (obtain ⟨f1, f2, f3⟩ := HCE.out w' (HKT2.out.then_ hw'); go_simp; first | done | exact rfl); go_simp; refine hK _ ?_; clear hK K)
                  | (go_simp; apply Exists.intro; refine ⟨fun w' hw' => ?_, hK _ ?_⟩; (first | ((with_reducible refine (HSC.out w').mono ?_))); rintro e w'' ⟨rfl, hk''⟩; exact ⟨rfl, hw'.then_ hk''⟩; clear hK K)))
            refine ⟨wpQuiet_nil ?_⟩
            intro ws3 hks3
            have HKS3 := Lib.hid (HKS2.out.then_ hks3)
            clear hks3
            go_wp2
            exact ⟨⟨j + 1, by omega, rfl, HKS3⟩, by simp [intOf]; omega⟩
          · obtain rfl : j = i := by omega
            have d2 : decide ((j : Int) < (j : Int)) = false := by rw [decide_eq_false_iff_not]; omega
            go_wp2
            go_ret
            exact ⟨rfl, HKW10.out.then_ HKS.out⟩
end Go.Proofs.YticnefkdkkjgcaaGreatDoor
