/- OrderDrains answers true, and keeps all memory that there was. -/
import Derived.Test.YtnofckgnnpmiiaaDp
import Derived.Test.YtnofckgnnpmiiaaAi
import Derived.Test.YtnofckgnnpmiiaaLv
import Derived.Test.YtnofckgnnpmiiaaFd
import Derived.Deep.CutBlock
import Derived.Deep.RegionHeld3
namespace Go.Proofs.Ytnofckgnnpmiiaa
open Go.RowKit Go.Shelf
attribute [local go_sem ↓] Go.wp_at_zero Go.wp_at_succ
attribute [local go_sem] Oper.semAt_some

def lenV : Value → Nat
  | .slice _ n _ => n
  | _ => 0
set_option maxRecDepth 100000 in
set_option maxHeartbeats 16000000 in
theorem drains_ok (A0 : Option Addr) (c0 : Nat) (xs : List Item) (A1 : Option Addr) (c1 : Nat) (ys : List Item) (nb : Nat) (o : Int) (w : World) (hx : Sl EI w A0 c0 xs) (hy : Sl EI w A1 c1 ys) (hlx : xs.length ≤ 100000000) (hly : ys.length ≤ 100000000) (hnb : nb ≤ 255) :
    Calls Try.prog 8 #[.agg #[.slice A0 xs.length c0, .slice A1 ys.length c1, .int .u8 (nb : Int), .int .i64 o]] w (fun e w' => e = .returned (.bool true) ∧ Keep nob w w') := by
  have HX := Lib.hid hx
  have HY := Lib.hid hy
  have hlc0 := hx.le
  have hcc0 := hx.cap
  have hlc1 := hy.le
  have hcc1 := hy.cap
  obtain ⟨L1, hL1⟩ : ∃ L, Hid (xs.length = L) := ⟨_, Lib.hid rfl⟩
  obtain ⟨L2, hL2⟩ : ∃ L, Hid (ys.length = L) := ⟨_, Lib.hid rfl⟩
  rw [hL1.out] at hlc0 ⊢
  rw [hL2.out] at hlc1 ⊢
  have HLL1 : Hid (L1 ≤ 100000000) := by unfold Hid; rw [← hL1.out]; omega
  have HLL2 : Hid (L2 ≤ 100000000) := by unfold Hid; rw [← hL2.out]; omega
  have hLb1 : (L1 : Int) ≤ 100000000 := by have := HLL1.out; omega
  have hLb2 : (L2 : Int) ≤ 100000000 := by have := HLL2.out; omega
  clear hx hy hlx hly
  have HF := Lib.hid (by_ok o)
  obtain ⟨az, HAZ⟩ : ∃ az, Hid (numTo xs 0 L1 = az) := ⟨_, Lib.hid rfl⟩
  obtain ⟨bz, HBZ⟩ : ∃ bz, Hid (numTo ys L1 L2 = bz) := ⟨_, Lib.hid rfl⟩
  have HAL : Hid (az.length = L1) := by unfold Hid; rw [← HAZ.out, numTo_len]
  have HBL : Hid (bz.length = L2) := by unfold Hid; rw [← HBZ.out, numTo_len]
  obtain ⟨w0, HW0⟩ : ∃ w0, Hid (w.alloc (.cells #[.slice A0 L1 c0, .slice A1 L2 c1, .int .u8 (nb : Int), .int .i64 o] 72) = w0) := ⟨_, Lib.hid rfl⟩
  have HK0 : Hid (Keep nob w w0) := by rw [← HW0.out]; exact (Keep.refl nob w).alloc _
  obtain ⟨ba, HBA⟩ : ∃ ba, Hid (w.heap.size = ba) := ⟨_, Lib.hid rfl⟩
  have a0 : w0.cell? ⟨ba, 0, none⟩ = some (.slice A0 L1 c0) := by rw [← HW0.out, ← HBA.out]; simp
  have a1 : w0.cell? ⟨ba, 1, none⟩ = some (.slice A1 L2 c1) := by rw [← HW0.out, ← HBA.out]; simp
  have a2 : w0.cell? ⟨ba, 2, none⟩ = some (.int .u8 (nb : Int)) := by rw [← HW0.out, ← HBA.out]; simp
  have a3 : w0.cell? ⟨ba, 3, none⟩ = some (.int .i64 o) := by rw [← HW0.out, ← HBA.out]; simp
  have HBX : Hid (∀ w', Keep nob w0 w' → w'.cell? ⟨ba, 0, none⟩ = some (.slice A0 L1 c0) ∧ w'.cell? ⟨ba, 1, none⟩ = some (.slice A1 L2 c1) ∧ w'.cell? ⟨ba, 2, none⟩ = some (.int .u8 (nb : Int)) ∧ w'.cell? ⟨ba, 3, none⟩ = some (.int .i64 o)) := fun w' hk =>
    ⟨hk.cell a0 (fun h => h), hk.cell a1 (fun h => h), hk.cell a2 (fun h => h), hk.cell a3 (fun h => h)⟩
  have HN1 : Hid (∀ w', Keep nob w0 w' → Calls Try.prog 39 #[.slice A0 L1 c0, .int .i64 0] w' fun e w'' => ∃ A' c', e = .returned (.slice A' L1 c') ∧ Gro w' w'' A' c' az) := fun w' hk => by
    have := numbered_ok A0 c0 L1 0 xs w' hL1.out ((HX.out.keep HK0.out (nobIn _)).keep hk (nobIn _)) (by have := HLL1.out; omega) (by omega)
    rw [HAZ.out] at this
    exact this
  have HN2 : Hid (∀ w', Keep nob w0 w' → Calls Try.prog 39 #[.slice A1 L2 c1, .int .i64 (L1 : Int)] w' fun e w'' => ∃ A' c', e = .returned (.slice A' L2 c') ∧ Gro w' w'' A' c' bz) := fun w' hk => by
    have := numbered_ok A1 c1 L2 L1 ys w' hL2.out ((HY.out.keep HK0.out (nobIn _)).keep hk (nobIn _)) (by have := HLL2.out; omega) (by have := HLL1.out; omega)
    rw [HBZ.out] at this
    exact this
  refine calls_of_marks Try.func8 rfl ?_
  simp only [Try.ntmps8, List.size_toArray, List.length_cons, List.length_nil, Nat.reduceAdd, Nat.reduceSub, Array.replicate_succ, Array.replicate_zero, List.push_toArray, List.append_toArray, List.nil_append, List.cons_append]
  go_upto_region 1 with (fail)
  rw [HW0.out, HBA.out]
  clear a0 a1 a2 a3
  refine wp_region_kept (by kernel_rfl) (by kernel_rfl) (QV.out ?_)
  repeat (first
    | (refine kq_skip (by rfl) (fun K hK => ?_); go_simp; refine hK _ ?_; clear hK K)
    | (refine kq_want (by rfl) (fun K hK => ?_); first
        | (refine BigFrame.quiet_move _ rfl ?_; go_simp; refine hK _ ?_; clear hK K)
        | (refine kq_still ?_ (fun w' hw' => ?_) ?_; rotate_left; (obtain ⟨c0', c1', c2', c3'⟩ := HBX.out w' hw'; go_simp; first | done | exact rfl); go_simp; refine hK _ ?_; clear hK K)))
  refine ⟨wpQuiet_nil ?_⟩
  intro w1 hk1
  have HK1 := Lib.hid hk1
  clear hk1
  have a0 := (HBX.out w1 HK1.out).1
  have a1 := (HBX.out w1 HK1.out).2.1
  go_upto_region 2 with (fail)
  have tok1 := Lib.hid True.intro
  go_region_held3 (fun w' => w'.cell? ⟨ba, 0, none⟩ = some (.slice A0 L1 c0) ∧ w'.cell? ⟨ba, 1, none⟩ = some (.slice A1 L2 c1)) (go_keep)
    (first
      | (go_at_call 39; have _t := tok1; refine (HN1.out _ HK1.out.drew).mono ?_; rintro e w2 ⟨Aa, ca, rfl, hg⟩; have HGa := Lib.hid hg; obtain ⟨e0, e1, -, -⟩ := HBX.out w2 (HK1.out.drew.then_ hg.keep); clear hg _t tok1)
      | (go_at_call 39; refine (HN2.out _ (HK1.out.drew.then_ HGa.out.keep)).mono ?_; rintro e w3 ⟨Ab, cb, rfl, hg⟩; have HGb := Lib.hid hg; obtain ⟨g0, g1, -, -⟩ := HBX.out w3 ((HK1.out.drew.then_ HGa.out.keep).then_ hg.keep); clear hg))
  clear a0 a1 e0 e1 g0 g1 HBX HN1 HN2 HW0
  have HK3 : Hid (Keep nob w w3) := ((HK0.out.then_ HK1.out.drew).then_ HGa.out.keep).then_ HGb.out.keep
  have HOa : Hid (Ow EI w3 Aa ca az) := HGa.out.ow.keep HGb.out.keep (nobIn _)
  have HOb : Hid (Ow EI w3 Ab cb bz) := HGb.out.ow
  clear HGa HGb HK1 HK0 HX HY HBA
  have hca := HOa.out.sl.cap
  have hla := HOa.out.sl.le
  have hcb := HOb.out.sl.cap
  have hlb := HOb.out.sl.le
  rw [HAL.out] at hla
  rw [HBL.out] at hlb
  obtain ⟨bc, HBC⟩ : ∃ bc, Hid (w3.heap.size = bc) := ⟨_, Lib.hid rfl⟩
  have HWB : Hid (w.heap.size ≤ bc) := by unfold Hid; rw [← HBC.out]; exact HK3.out.size
  obtain ⟨w4, HW4⟩ : ∃ w4, Hid (w3.alloc (.cells #[byV o, .slice none 0 0, .int .i64 0] 61) = w4) := ⟨_, Lib.hid rfl⟩
  obtain ⟨w5, HW5⟩ : ∃ w5, Hid (w4.alloc (.cells #[byV o, .slice none 0 0, .int .i64 0] 61) = w5) := ⟨_, Lib.hid rfl⟩
  have HS4 : Hid (w4.heap.size = bc + 1) := by unfold Hid; rw [← HW4.out, ← HBC.out]; simp
  have HC4 : Hid (BL o bc none 0 [] w4) := by unfold Hid; rw [← HW4.out, ← HBC.out]; exact BL.new w3
  have HD5 : Hid (BL o (bc + 1) none 0 [] w5) := by unfold Hid; rw [← HW5.out, ← HS4.out]; exact BL.new w4
  have HK34 : Hid (Keep nob w3 w4) := by unfold Hid; rw [← HW4.out]; exact (Keep.refl _ w3).alloc _
  have HK45 : Hid (Keep nob w4 w5) := by unfold Hid; rw [← HW5.out]; exact (Keep.refl _ w4).alloc _
  have HC5 : Hid (BL o bc none 0 [] w5) := HC4.out.keep HK45.out (fun h => h) (nobIn _)
  have HS5 : Hid (bc + 2 ≤ w5.heap.size) := by unfold Hid; rw [← HW5.out]; rw [World.size_alloc, HS4.out]; omega
  have tok1 := Lib.hid True.intro
  have tok2 := Lib.hid True.intro
  go_upto_region 4 with (first
    | (go_at_call 15; have _t := tok1; go_must (refine (HF.out _).mono ?_); rintro e w' ⟨rfl, hw⟩; replace hw := hw.symm; subst hw; clear _t tok1)
    | (go_at_call 33; have _t := tok2; go_must (refine (new_ok (byF o) #[] #[] w3).mono ?_); rintro e w' ⟨rfl, hw⟩; rw [HW4.out] at hw; replace hw := hw.symm; subst hw; clear _t tok2)
    | (go_at_call 15; go_must (refine (HF.out _).mono ?_); rintro e w' ⟨rfl, hw⟩; replace hw := hw.symm; subst hw)
    | (go_at_call 33; go_must (refine (new_ok (byF o) #[] #[] _).mono ?_); rintro e w' ⟨rfl, hw⟩; rw [HW5.out] at hw; replace hw := hw.symm; subst hw))
  rw [HBC.out, HS4.out]
  have HALw : Hid (∀ a, Aa = some a → 0 < ca → a.block < bc) := fun a ha hc => by
    obtain ⟨b, o', e, hlt⟩ := HOa.out.lt hc
    rw [ha] at e
    obtain rfl := Option.some.inj e
    rw [← HBC.out]
    exact hlt
  have HBLw : Hid (∀ a, Ab = some a → 0 < cb → a.block < bc) := fun a ha hc => by
    obtain ⟨b, o', e, hlt⟩ := HOb.out.lt hc
    rw [ha] at e
    obtain rfl := Option.some.inj e
    rw [← HBC.out]
    exact hlt
  have HSA : Hid (∀ w', Keep (fun k => bc ≤ k) w5 w' → Sl EI w' Aa ca az ∧ Sl EI w' Ab cb bz) := fun w' hk =>
    ⟨((HOa.out.sl.keep HK34.out (nobIn _)).keep HK45.out (nobIn _)).keep2 hk (fun hne ⟨a, ha, h⟩ => by have h1 := HOa.out.sl.lt hne a ha; have h2 := HBC.out; have h3 : bc ≤ a.block := h; omega),
      ((HOb.out.sl.keep HK34.out (nobIn _)).keep HK45.out (nobIn _)).keep2 hk (fun hne ⟨a, ha, h⟩ => by have h1 := HOb.out.sl.lt hne a ha; have h2 := HBC.out; have h3 : bc ≤ a.block := h; omega)⟩
  have HK5 : Hid (Keep nob w w5) := (HK3.out.then_ HK34.out).then_ HK45.out
  clear HOa HOb HK3 HK34 HK45 HC4 HS4
  have HC50 : Hid (BK o bc 0 [] w5 w5) := ⟨none, HC5.out, fun a h => by simp at h, Keep.refl _ _⟩
  have HADa : Hid (Calls Try.prog 40 #[.pointer (some ⟨bc, 0, none⟩), .slice Aa L1 ca] w5 fun e w' => e = .returned (.tuple #[]) ∧ BK o bc L1 (heldFrom 0 az) w5 w') := by
    have h := HC50.out.add Aa ca L1 az HAL.out (HSA.out w5 (Keep.refl _ _)).1 (fun hne a ha => HALw.out a ha (by have := HAL.out; have := List.length_pos_iff.2 hne; omega)) HS5.out (by have := HLL1.out; simp only [List.length_nil]; omega) (by have := HLL1.out; omega)
    simp only [List.nil_append, Nat.zero_add] at h
    exact h
  clear HC5 HC50
  go_upto_region 7 with (go_at_call 40; go_must (refine HADa.out.mono ?_); rintro e w6 ⟨rfl, hbk⟩; have HB6 := Lib.hid hbk; clear hbk)
  clear HADa
  go_wp2_with (fail)
  obtain ⟨T, HT⟩ : ∃ T, Hid (L1 + L2 = T) := ⟨_, Lib.hid rfl⟩
  have HTL : Hid (T ≤ 200000000) := by have := HT.out; have := HLL1.out; have := HLL2.out; unfold Hid; omega
  go_loopw [9] (fun u9 wr => ∃ i : Nat, i ≤ L2 ∧ u9 = .int .i64 (i : Int) ∧ Hid (BK o bc (L1 + i) (heldFrom 0 (az ++ bz.take i)) w5 wr)) (fun u9 _ => ((L2 : Int) - intOf u9).toNat)
  case atStart => exact ⟨0, Nat.zero_le _, rfl, by unfold Hid; rw [List.take_zero, List.append_nil]; exact HB6.out⟩
  case round =>
    obtain ⟨i, hi, rfl, HBK⟩ := hrel
    by_cases hlt : i < L2
    · have hi0 : (0 : Int) ≤ (i : Int) := by omega
      have hi1 : (i : Int) < (L2 : Int) := by omega
      obtain ⟨b1, o1, rfl, hx⟩ := (HSA.out wr (HBK.out.kept.mono (fun k _ h => by show bc ≤ k; rcases h with h | h <;> omega))).2.elem (i := i) (by rw [HBL.out]; exact hlt)
      obtain ⟨⟨xk, xn⟩, HX⟩ : ∃ x, Hid (bz[i]'(by rw [HBL.out]; exact hlt) = x) := ⟨_, Lib.hid rfl⟩
      have HXE : Hid (bz.take i ++ [(xk, xn)] = bz.take (i + 1)) := by
        unfold Hid
        rw [List.take_add_one, List.getElem?_eq_getElem (by rw [HBL.out]; exact hlt), HX.out]
        rfl
      rw [HX.out] at hx
      have hx1 := hx 0 _ rfl
      have hx2 := hx 1 _ rfl
      simp only [EI, Nat.add_zero] at hx1 hx2
      clear hx
      have HAD : Hid (Calls Try.prog 40 #[.pointer (some ⟨bc, 0, none⟩), .slice (some ⟨wr.heap.size, 0, none⟩) 1 1] (wr.alloc (.cells #[.int .i64 xk, .int .i64 xn] 27)) fun e w' => e = .returned (.tuple #[]) ∧ BK o bc (L1 + (i + 1)) (heldFrom 0 (az ++ bz.take (i + 1))) w5 w') := by
        have hl : (heldFrom 0 (az ++ bz.take i)).length = L1 + i := by rw [heldFrom_len, List.length_append, HAL.out, List.length_take, HBL.out]; omega
        have h := HBK.out.add_one (xk, xn) (Nat.le_trans HS5.out HBK.out.kept.size) (by have := HLL1.out; have := HLL2.out; omega) (by have := HLL1.out; have := HLL2.out; omega)
        have e : heldFrom 0 (az ++ bz.take i) ++ [((xk, xn), ((L1 + i : Nat) : Int))] = heldFrom 0 (az ++ bz.take (i + 1)) := by
          rw [← HXE.out, ← List.append_assoc, heldFrom_app (az ++ bz.take i)]
          congr 1
          rw [List.length_append, HAL.out, List.length_take, HBL.out, show min i L2 = i by omega]
          simp [heldFrom]
        rw [e] at h
        exact h
      go_wp2_with (go_at_call 40; go_must (refine HAD.out.mono ?_); rintro e w7 ⟨rfl, hbk⟩; have HB7 := Lib.hid hbk; clear hbk)
      go_roundw
      case rel => exact ⟨i + 1, hlt, by go_num, HB7⟩
      case measure => simp [intOf]; omega
    · have hiL : i = L2 := by omega
      subst i
      have HB7 : Hid (BK o bc T (heldFrom 0 (az ++ bz)) w5 wr) := by
        have := HBK.out
        rw [List.take_of_length_le (Nat.le_of_eq HBL.out), HT.out] at this
        exact this
      clear HBK HB6
      obtain ⟨w8, HW8⟩ : ∃ w8, Hid (wr = w8) := ⟨_, Lib.hid rfl⟩
      rw [HW8.out] at HB7 ⊢
      clear HW8 wr hi hlt
      obtain ⟨all, HALL⟩ : ∃ all, Hid (heldFrom 0 (az ++ bz) = all) := ⟨_, Lib.hid rfl⟩
      rw [HALL.out] at HB7
      have HAN : Hid (all.length = T) := by unfold Hid; rw [← HALL.out, heldFrom_len, List.length_append, HAL.out, HBL.out, HT.out]
      have HS8 : Hid (bc + 2 ≤ w8.heap.size) := Nat.le_trans HS5.out HB7.out.kept.size
      go_wp2_with (fail)
      have hTb : (T : Int) ≤ 200000000 := by have := HTL.out; omega
      have hwT : IntKind.i64.wrap ((L1 : Int) + (L2 : Int)) = (T : Int) := by
        rw [IntWalk.i64_left, show (L1 : Int) + (L2 : Int) = (T : Int) by have := HT.out; omega]
        exact IntWalk.wrap64_in _ ⟨by omega, by omega⟩
      go_loopw [10] (fun u10 wr => ∃ (i : Nat) (fo cs : List (Held Item)) (Ao : Option Addr) (co : Nat), u10 = .slice Ao i co ∧ Hid (fo.length = i) ∧ Hid (DL o bc T all fo cs Ao co w5 wr)) (fun u10 _ => T + 1 - lenV u10)
      case atStart => exact ⟨0, [], all, none, 0, rfl, rfl, DL.start HB7.out HS8.out⟩
      case round =>
        obtain ⟨i, fo, cs, Ao, co, rfl, HFL, HDL⟩ := hrel
        obtain ⟨n, HN⟩ : ∃ n, Hid (cs.length = n) := ⟨_, Lib.hid rfl⟩
        have HLN : Hid (i + n = T) := by have := HDL.out.dt.lens; rw [HFL.out, HN.out, HAN.out] at this; exact this
        have HLEN : Hid (Calls Try.prog 38 #[.pointer (some ⟨bc, 0, none⟩)] wr fun e w' => e = .returned (.int .i64 (n : Int)) ∧ w' = wr) := by
          have := HDL.out.len
          rw [HN.out] at this
          exact this
        have hiT : (i : Int) ≤ (T : Int) := by have := HLN.out; omega
        have hiN : i ≤ T := by have := HLN.out; omega
        have hico := HDL.out.ow.sl.cap
        have hile := HDL.out.ow.sl.le
        rw [List.length_map, HFL.out] at hile
        by_cases hn : 0 < n
        · have hn1 : (0 : Int) < (n : Int) := by omega
          have HTK := Lib.hid (HDL.out.take (fun e => by have := HN.out; rw [e] at this; simp at this; omega) (by have := HN.out; have := HLN.out; have := HTL.out; omega))
          go_upto_region 14 with (first
            | (go_at_call 38; go_must (refine HLEN.out.mono ?_); rintro e w' ⟨rfl, hw⟩; replace hw := hw.symm; subst hw)
            | (go_at_call 41; go_must (refine HTK.out.mono ?_); rintro e w9 ⟨⟨⟨zk, zn⟩, zo⟩, rfl, hzl, hfin⟩; have HZL := Lib.hid hzl; have HFIN := Lib.hid hfin; clear hzl hfin; simp only [EI]))
          obtain ⟨wa, HWA⟩ : ∃ wa, Hid (w9.alloc (.cells #[.int .i64 zk, .int .i64 zn] 27) = wa) := ⟨_, Lib.hid rfl⟩
          have HKA : Hid (Keep (fun _ => False) w9 wa) := by rw [← HWA.out]; exact (Keep.refl _ w9).alloc _
          have z1 : wa.cell? ⟨w9.heap.size, 0, none⟩ = some (.int .i64 zk) := by rw [← HWA.out]; simp
          have z2 : wa.cell? ⟨w9.heap.size, 1, none⟩ = some (.int .i64 zn) := by rw [← HWA.out]; simp
          rw [HWA.out]
          obtain ⟨wb, HWB⟩ : ∃ wb, Hid (wa.alloc (.cells #[.int .i64 zk, .int .i64 zn] 27) = wb) := ⟨_, Lib.hid rfl⟩
          have HKB : Hid (Keep (fun _ => False) w9 wb) := by rw [← HWB.out]; exact HKA.out.alloc _
          have HSB : Hid (Sl EI wb (some ⟨wa.heap.size, 0, none⟩) 1 [((zk, zn) : Item)]) := by rw [← HWB.out]; exact Sl.one EI wa _ _ 27 rfl
          have HML : Hid ((fo.map (·.1)).length = i) := by unfold Hid; rw [List.length_map, HFL.out]
          have hb16 : (i + 1) * 16 ≤ 140737488355328 := by have := HTL.out; omega
          have hb63 : i + 1 ≤ 9223372036854775807 := by have := HTL.out; omega
          go_wp2_with (at_builtin; rw [HWB.out]; refine wpList_append_ow EI rfl _ _ 22 rfl 27 _ 16 Try.underlying22 info27 rfl Ao i co rfl (fo.map (·.1)) HML.out (HFIN.out wb HKB.out).1 (some ⟨wa.heap.size, 0, none⟩) 1 1 rfl [((zk, zn) : Item)] rfl HSB.out hb16 hb63 ?_; intro A' c' wc hap; have HAP := Lib.hid hap; clear hap)
          have HNX : Hid (DL o bc T all (fo ++ [((zk, zn), zo)]) (cs.erase ((zk, zn), zo)) A' c' w5 wc) := (HFIN.out wb HKB.out).2 A' c' wc (by rw [List.map_append]; exact HAP.out)
          go_roundw
          case rel => exact ⟨i + 1, _, _, A', c', rfl, by unfold Hid; rw [List.length_append, HFL.out]; rfl, HNX⟩
          case measure => simp [lenV]; omega
        · have hn0 : n = 0 := by omega
          have HLEN0 : Hid (Calls Try.prog 38 #[.pointer (some ⟨bc, 0, none⟩)] wr fun e w' => e = .returned (.int .i64 0) ∧ w' = wr) := by
            have := HLEN.out
            rw [hn0] at this
            exact this
          have hcs : cs = [] := List.eq_nil_of_length_eq_zero (by rw [HN.out]; exact hn0)
          have hiT' : T = i := by have := HLN.out; omega
          clear HLEN HLN hn hiT hiN HN hn0 n
          subst hcs
          subst hiT'
          obtain ⟨w9, HW9⟩ : ∃ w9, Hid (wr = w9) := ⟨_, Lib.hid rfl⟩
          rw [HW9.out] at HDL HLEN0 ⊢
          clear HW9 wr
          obtain ⟨outz, HOZ⟩ : ∃ outz, Hid (fo.map (·.1) = outz) := ⟨_, Lib.hid rfl⟩
          have HOL : Hid (outz.length = T) := by unfold Hid; rw [← HOZ.out, List.length_map, HFL.out]
          have HSO : Hid (Sorts (kap o) (az ++ bz) outz) := by
            have := HDL.out.dt
            rw [← HALL.out] at this
            unfold Hid
            rw [← HOZ.out]
            exact this.done (byC_keyed o)
          have HOW : Hid (Ow EI w9 Ao co outz) := by unfold Hid; rw [← HOZ.out]; exact HDL.out.ow
          have HK9 : Hid (Keep (KC bc) w5 w9) := HDL.out.keep
          have HSA9 : Hid (Sl EI w9 Aa ca az ∧ Sl EI w9 Ab cb bz) := HSA.out w9 (HK9.out.mono (fun k _ h => by show bc ≤ k; rcases h with h | h <;> omega))
          clear HDL HB7 HFL HALL HAN HOZ
          obtain ⟨wx, HWX⟩ : ∃ wx, Hid (w9.alloc (.cells #[] 27) = wx) := ⟨_, Lib.hid rfl⟩
          have HKX : Hid (Keep nob w9 wx) := by rw [← HWX.out]; exact (Keep.refl nob w9).alloc _
          have HSX : Hid (w9.heap.size + 1 = wx.heap.size) := by unfold Hid; rw [← HWX.out, World.size_alloc]
          have HAP0 : Hid (∀ A' c' w', Appended EI wx (some ⟨w9.heap.size, 0, none⟩) ([] ++ az) A' c' w' → Keep nob w9 w' ∧ (∀ a, A' = some a → w9.heap.size ≤ a.block) ∧ Ow EI w' A' c' az ∧ wx.heap.size ≤ w'.heap.size) := fun A' c' w' h => by
            have := h.kept_all HKX.out (fun a ha => by obtain rfl := Option.some.inj ha; exact Nat.le_refl _)
            exact ⟨this.1, this.2, by have := h.ow; rwa [List.nil_append] at this, h.keep.size⟩
          have hb1 : (0 + L1) * 16 ≤ 140737488355328 := by have := HLL1.out; omega
          have hb2 : (L1 + L2) * 16 ≤ 140737488355328 := by have := HLL1.out; have := HLL2.out; omega
          have hb3 : 0 + L1 ≤ 9223372036854775807 := by omega
          have hb4 : L1 + L2 ≤ 9223372036854775807 := by omega
          have HSAX : Hid (∀ w', Keep nob w9 w' → Sl EI w' Aa ca az ∧ Sl EI w' Ab cb bz) := fun w' hk => ⟨HSA9.out.1.keep hk (nobIn _), HSA9.out.2.keep hk (nobIn _)⟩
          have HALB : Hid ((az ++ bz).length = T) := by unfold Hid; rw [List.length_append, HAL.out, HBL.out, HT.out]
          have tok1 := Lib.hid True.intro
          go_upto_region 19 with (first
            | (go_at_call 38; go_must (refine HLEN0.out.mono ?_); rintro e w' ⟨rfl, hw⟩; replace hw := hw.symm; subst hw)
            | (at_builtin; have _t := tok1; rw [HWX.out]; refine wpList_append_ow EI rfl _ _ 22 rfl 27 _ 16 Try.underlying22 info27 rfl (some ⟨w9.heap.size, 0, none⟩) 0 0 rfl [] rfl (Ow.nil_ _ _ _) Aa L1 ca rfl az HAL.out (HSAX.out wx HKX.out).1 hb1 hb3 ?_; intro Ax cx w10 hap; have HX3 := Lib.hid (HAP0.out Ax cx w10 hap); clear hap _t tok1)
            | (at_builtin; refine wpList_append_ow EI rfl _ _ 22 rfl 27 _ 16 Try.underlying22 info27 rfl Ax L1 cx rfl az HAL.out HX3.out.2.2.1 Ab L2 cb rfl bz HBL.out (HSAX.out w10 HX3.out.1).2 hb2 hb4 ?_; intro Al cl w11 hap; have HAP := Lib.hid hap; clear hap)
            | (go_at_call 15; go_must (refine (HF.out _).mono ?_); rintro e w' ⟨rfl, hw⟩; replace hw := hw.symm; subst hw; rw [HT.out])
            | (go_at_call 14; have hpl := HAP.out.kept_all HX3.out.1 HX3.out.2.1; have HPL := Lib.hid hpl; clear hpl; go_must (refine (sort_by o Al cl T (az ++ bz) w11 HALB.out HAP.out.ow.sl (by have := HTL.out; omega)).mono ?_); rintro e w12 ⟨As, cs', s, rfl, hz, hs, ho, hf, hk⟩; obtain rfl := HSO.out.unique hs; have HKs := Lib.hid hk; have HOs := Lib.hid ho; clear hz hs ho hf hk)
            | (go_at_call 17; go_must (refine (same_ok Ao As co cs' T outz w12 HOL.out ((HOW.out.keep HPL.out.1 (nobIn _)).keep HKs.out (nobIn _)).sl HOs.out.sl (by have := HTL.out; omega)).mono ?_); rintro e w13 ⟨rfl, hk⟩; have HKm := Lib.hid hk; clear hk))
          have HK913 : Hid (Keep nob w9 w13) := (HPL.out.1.then_ HKs.out).then_ HKm.out
          have HS13 : Hid (bc + 1 + 2 ≤ w13.heap.size) := by
            have h1 := HSX.out
            have h2 := HX3.out.2.2.2
            have h3 := HAP.out.keep.size
            have h4 := HKs.out.size
            have h5 := HKm.out.size
            have h6 := HK9.out.size
            have h7 := HS5.out
            unfold Hid
            omega
          have HD13 : Hid (BK o (bc + 1) 0 [] w13 w13) := ⟨none, (HD5.out.keep HK9.out (fun h => by rcases h with h | h <;> omega) (fun ⟨a, ha, _⟩ => by simp at ha)).keep HK913.out (fun h => h) (nobIn _), fun a h => by simp at h, Keep.refl _ _⟩
          have HK513 : Hid (Keep (fun k => bc ≤ k) w5 w13) := (HK9.out.mono (fun k _ h => by show bc ≤ k; rcases h with h | h <;> omega)).then_ (HK913.out.mono (fun _ _ h => h.elim))
          have HSD : Hid (∀ w', Keep (KC (bc + 1)) w13 w' → Sl EI w' Aa ca az ∧ Sl EI w' Ab cb bz) := fun w' hk => HSA.out w' (HK513.out.then_ (hk.mono (fun k _ h => by show bc ≤ k; rcases h with h | h <;> omega)))
          clear HKm HKs HOs HPL HAP HX3 HAP0 HWX HKX HSX HSAX HSA9 HOW HSO HOL HLEN0 hb1 hb2 hb3 hb4 hico hile HD5
          have HADd : Hid (Calls Try.prog 40 #[.pointer (some ⟨bc + 1, 0, none⟩), .slice Aa L1 ca] w13 fun e w' => e = .returned (.tuple #[]) ∧ BK o (bc + 1) L1 (heldFrom 0 az) w13 w') := by
            have h := BK.add HD13.out Aa ca L1 az HAL.out (HSD.out w13 (Keep.refl _ _)).1 (fun hne a ha => by have := HALw.out a ha (by have := HAL.out; have := List.length_pos_iff.2 hne; omega); omega) HS13.out (by have := HLL1.out; simp only [List.length_nil]; omega) (by have := HLL1.out; omega)
            simp only [List.nil_append, Nat.zero_add] at h
            exact h
          go_upto_region 20 with (go_at_call 40; go_must (refine HADd.out.mono ?_); rintro e w14 ⟨rfl, hbk⟩; have HB14 := Lib.hid hbk; clear hbk)
          clear HADd HD13
          have HS14 : Hid (bc + 1 + 2 ≤ w14.heap.size) := Nat.le_trans HS13.out (BK.kept HB14.out).size
          obtain ⟨ala, HALA⟩ : ∃ ala, Hid (heldFrom 0 az = ala) := ⟨_, Lib.hid rfl⟩
          rw [HALA.out] at HB14
          have HAN : Hid (ala.length = L1) := by unfold Hid; rw [← HALA.out, heldFrom_len, HAL.out]
          go_upto_block 4 with (fail)
          go_cut [13] from 100 to 119 (fun u13 wc => ∃ (i : Nat) (fo cs : List (Held Item)) (Ao : Option Addr) (co : Nat), u13 = .slice Ao i co ∧ Hid (fo.length = i) ∧ Hid (DL o (bc + 1) L1 ala fo cs Ao co w13 wc))
          case first =>
            go_wp2_with (fail)
            go_loopw [13, 14] (fun u13 u14 wr => ∃ (i : Nat) (fo cs : List (Held Item)) (Ao : Option Addr) (co : Nat), u13 = .slice Ao i co ∧ u14 = .int .i64 (i : Int) ∧ Hid (fo.length = i) ∧ Hid (DL o (bc + 1) L1 ala fo cs Ao co w13 wr)) (fun u13 _ _ => L1 + 1 - lenV u13)
            case atStart => exact ⟨0, [], ala, none, 0, rfl, rfl, rfl, DL.start HB14.out HS14.out⟩
            case round =>
              obtain ⟨i, fo, cs, Ao, co, rfl, rfl, HFL, HDL⟩ := hrel
              obtain ⟨n, HN⟩ : ∃ n, Hid (cs.length = n) := ⟨_, Lib.hid rfl⟩
              have HLN : Hid (i + n = L1) := by have := HDL.out.dt.lens; rw [HFL.out, HN.out, HAN.out] at this; exact this
              have HLEN : Hid (Calls Try.prog 38 #[.pointer (some ⟨bc + 1, 0, none⟩)] wr fun e w' => e = .returned (.int .i64 (n : Int)) ∧ w' = wr) := by
                have := HDL.out.len
                rw [HN.out] at this
                exact this
              have hnbi : (nb : Int) ≤ 255 := by omega
              have hnb0 : (0 : Int) ≤ (nb : Int) := by omega
              by_cases hin : i < nb
              · have hin1 : (i : Int) < (nb : Int) := by omega
                by_cases hn : 0 < n
                · have hn1 : (0 : Int) < (n : Int) := by omega
                  go_upto_region 24 with (first
                    | (go_at_call 38; go_must (refine HLEN.out.mono ?_); rintro e w' ⟨rfl, hw⟩; replace hw := hw.symm; subst hw))
                  have HTK := Lib.hid (HDL.out.take (fun e => by have := HN.out; rw [e] at this; simp at this; omega) (by have := HN.out; have := HLN.out; have := HLL1.out; omega))
                  have hiN : i ≤ T := by have := HLN.out; have := HT.out; omega
                  have hico := HDL.out.ow.sl.cap
                  have hile := HDL.out.ow.sl.le
                  rw [List.length_map, HFL.out] at hile
                  go_upto_region 25 with (go_at_call 41; go_must (refine HTK.out.mono ?_); rintro e w9 ⟨⟨⟨zk, zn⟩, zo⟩, rfl, hzl, hfin⟩; have HZL := Lib.hid hzl; have HFIN := Lib.hid hfin; clear hzl hfin; simp only [EI])
                  obtain ⟨wa, HWA⟩ : ∃ wa, Hid (w9.alloc (.cells #[.int .i64 zk, .int .i64 zn] 27) = wa) := ⟨_, Lib.hid rfl⟩
                  have HKA : Hid (Keep (fun _ => False) w9 wa) := by rw [← HWA.out]; exact (Keep.refl _ w9).alloc _
                  have z1 : wa.cell? ⟨w9.heap.size, 0, none⟩ = some (.int .i64 zk) := by rw [← HWA.out]; simp
                  have z2 : wa.cell? ⟨w9.heap.size, 1, none⟩ = some (.int .i64 zn) := by rw [← HWA.out]; simp
                  rw [HWA.out]
                  obtain ⟨wb, HWB⟩ : ∃ wb, Hid (wa.alloc (.cells #[.int .i64 zk, .int .i64 zn] 27) = wb) := ⟨_, Lib.hid rfl⟩
                  have HKB : Hid (Keep (fun _ => False) w9 wb) := by rw [← HWB.out]; exact HKA.out.alloc _
                  have HSB : Hid (Sl EI wb (some ⟨wa.heap.size, 0, none⟩) 1 [((zk, zn) : Item)]) := by rw [← HWB.out]; exact Sl.one EI wa _ _ 27 rfl
                  have HML : Hid ((fo.map (·.1)).length = i) := by unfold Hid; rw [List.length_map, HFL.out]
                  have hb16 : (i + 1) * 16 ≤ 140737488355328 := by have := HTL.out; omega
                  have hb63 : i + 1 ≤ 9223372036854775807 := by have := HTL.out; omega
                  go_wp2_with (at_builtin; rw [HWB.out]; refine wpList_append_ow EI rfl _ _ 22 rfl 27 _ 16 Try.underlying22 info27 rfl Ao i co rfl (fo.map (·.1)) HML.out (HFIN.out wb HKB.out).1 (some ⟨wa.heap.size, 0, none⟩) 1 1 rfl [((zk, zn) : Item)] rfl HSB.out hb16 hb63 ?_; intro A' c' wc hap; have HAP := Lib.hid hap; clear hap)
                  have HNX : Hid (DL o (bc + 1) L1 ala (fo ++ [((zk, zn), zo)]) (cs.erase ((zk, zn), zo)) A' c' w13 wc) := (HFIN.out wb HKB.out).2 A' c' wc (by rw [List.map_append]; exact HAP.out)
                  go_roundw
                  case rel => exact ⟨i + 1, _, _, A', c', rfl, by go_num, by unfold Hid; rw [List.length_append, HFL.out]; rfl, HNX⟩
                  case measure => simp [lenV]; have := HLN.out; omega
                · have hn0 : n = 0 := by omega
                  have HLEN0 : Hid (Calls Try.prog 38 #[.pointer (some ⟨bc + 1, 0, none⟩)] wr fun e w' => e = .returned (.int .i64 0) ∧ w' = wr) := by
                    have := HLEN.out
                    rw [hn0] at this
                    exact this
                  go_wp2_with (first
                    | (go_at_call 38; go_must (refine HLEN0.out.mono ?_); rintro e w' ⟨rfl, hw⟩; replace hw := hw.symm; subst hw))
                  go_meet
                  case rel => exact ⟨i, fo, cs, Ao, co, rfl, HFL, HDL⟩
              · have hin1 : ¬ ((i : Int) < (nb : Int)) := by omega
                go_wp2_with (fail)
                go_meet
                case rel => exact ⟨i, fo, cs, Ao, co, rfl, HFL, HDL⟩
          case rest =>
            obtain ⟨i, fo, cs, Af, cf, rfl, HFL, HDL⟩ := hcut
            obtain ⟨n, HN⟩ : ∃ n, Hid (cs.length = n) := ⟨_, Lib.hid rfl⟩
            have HLN : Hid (i + n = L1) := by have := HDL.out.dt.lens; rw [HFL.out, HN.out, HAN.out] at this; exact this
            have hcf := HDL.out.ow.sl.cap
            have hlf := HDL.out.ow.sl.le
            rw [List.length_map, HFL.out] at hlf
            obtain ⟨fz, HFZ⟩ : ∃ fz, Hid (fo.map (·.1) = fz) := ⟨_, Lib.hid rfl⟩
            have HFZL : Hid (fz.length = i) := by unfold Hid; rw [← HFZ.out, List.length_map, HFL.out]
            have HOF : Hid (Ow EI wc Af cf fz) := by unfold Hid; rw [← HFZ.out]; exact HDL.out.ow
            have hi1 : (i : Int) ≤ (L1 : Int) := by have := HLN.out; omega
            have hi3 : i ≤ L1 := by omega
            have hi4 : ¬ (L1 < i) := by omega
            have hwn : IntKind.i64.wrap ((L1 : Int) - (i : Int)) = (n : Int) := by
              rw [IntWalk.i64_left, show (L1 : Int) - (i : Int) = (n : Int) by have := HLN.out; omega]
              exact IntWalk.wrap64_in _ ⟨by omega, by have := HLN.out; omega⟩
            have HSAc : Hid (Sl EI wc Aa ca az ∧ Sl EI wc Ab cb bz) := HSD.out wc HDL.out.keep
            have HLENc : Hid (∀ w', Keep nob wc w' → Calls Try.prog 38 #[.pointer (some ⟨bc + 1, 0, none⟩)] w' fun e w'' => e = .returned (.int .i64 (n : Int)) ∧ w'' = w') := fun w' hk => by
              have := (HDL.out.back.keep hk).len
              rw [HN.out] at this
              exact this
            go_upto_region 27 with (first
              | (go_at_call 15; go_must (refine (HF.out _).mono ?_); rintro e w' ⟨rfl, hw⟩; replace hw := hw.symm; subst hw)
              | (go_at_call 14; go_must (refine (sort_by o Aa ca L1 az wc HAL.out HSAc.out.1 (by have := HLL1.out; omega)).mono ?_); rintro e w15 ⟨As, cs', s, rfl, hz, hs, ho, hf, hk⟩; have HSS := Lib.hid hs; have HSL := Lib.hid hz; have HK15 := Lib.hid hk; have HOs := Lib.hid ho; clear hz hs ho hf hk))
            have hcs1 := HOs.out.sl.le
            have hcs2 := HOs.out.sl.cap
            rw [HSL.out] at hcs1
            have HFT : Hid (s.take i = fz) := by
              have := HDL.out.dt
              rw [← HALA.out] at this
              have := this.first (byC_keyed o) HSS.out
              rw [HFL.out, HFZ.out] at this
              exact this
            have hsl : ∀ w, (Instr.slice 22 (.slice As L1 cs') none (some (.int .i64 (i : Int))) none).run Try.prog w = .ok (.slice As i cs') w := fun w => run_slice_h w 22 27 2 Try.underlying22 (by kernel_rfl) As L1 cs' i _ rfl (by omega)
            have HSST : Hid (Sl EI w15 As cs' fz) := by have := HOs.out.sl.take i; rw [HFT.out] at this; exact this
            have hdn : decide ((L1 : Int) < (i : Int)) = false := decide_eq_false (by omega)
            go_upto_region 29 with (first
              | (go_at_call 38; go_must (refine (HLENc.out w15 HK15.out).mono ?_); rintro e w' ⟨rfl, hw⟩; replace hw := hw.symm; subst hw)
              | (go_at_call 17; go_must (refine (same_ok Af As cf cs' i fz w15 HFZL.out (HOF.out.keep HK15.out (nobIn _)).sl HSST.out (by have := HLL1.out; omega)).mono ?_); rintro e w16 ⟨rfl, hk⟩; have HK16 := Lib.hid hk; clear hk))
            have HK16c : Hid (Keep nob wc w16) := HK15.out.then_ HK16.out
            have HADb : Hid (Calls Try.prog 40 #[.pointer (some ⟨bc + 1, 0, none⟩), .slice Ab L2 cb] w16 fun e w' => e = .returned (.tuple #[]) ∧ BK o (bc + 1) T (cs ++ heldFrom (L1 : Int) bz) w13 w' ∧ Ow EI w' Af cf fz) := by
              have h := (HDL.out.keep_ HK16c.out).add Ab cb L2 bz HBL.out (HSAc.out.2.keep HK16c.out (nobIn _)) (fun hne a ha => by have := HBLw.out a ha (by have := HBL.out; have := List.length_pos_iff.2 hne; omega); omega) (by have := HLL1.out; have := HLL2.out; have := HLN.out; rw [HN.out]; omega) (by have := HLL1.out; have := HLL2.out; omega)
              rw [HT.out, HFZ.out] at h
              exact h
            obtain ⟨cs2, HC2⟩ : ∃ cs2, Hid (cs ++ heldFrom (L1 : Int) bz = cs2) := ⟨_, Lib.hid rfl⟩
            rw [HC2.out] at HADb
            have HC2L : Hid (cs2.length ≤ 200000000) := by unfold Hid; rw [← HC2.out, List.length_append, heldFrom_len, HN.out, HBL.out]; have := HLL1.out; have := HLL2.out; have := HLN.out; omega
            obtain ⟨zl, HZL⟩ : ∃ zl, Hid (Sorts (kap o) (cs2.map (·.1)) zl) := ⟨_, Lib.hid (stepsL_sorts (cmpR_keyed o) _ _ (Nat.le_of_lt Nat.lt_two_pow_self))⟩
            have HPZ : Hid ((fz ++ zl).Perm (az ++ bz)) := by
              have h1 := HDL.out.dt
              rw [← HALA.out] at h1
              have h2 := HZL.out
              rw [← HC2.out] at h2
              have := h1.all h2
              rw [HFZ.out] at this
              exact this
            have HKc : Hid (Keep (KC (bc + 1)) w13 wc) := HDL.out.keep
            clear HDL HOs HSS HSST HFT HSL HLENc HSAc hsl hdn hcs1 hcs2 HK15 HK16 hlf hi1 hi3 hi4 hwn HOF
            go_upto_region 30 with (go_at_call 40; go_must (refine HADb.out.mono ?_); rintro e w17 ⟨rfl, hbk, ho⟩; have HB17 := Lib.hid hbk; have HOF := Lib.hid ho; clear hbk ho)
            clear HADb
            obtain ⟨bq, HBQ⟩ : ∃ bq, Hid (w17.heap.size = bq) := ⟨_, Lib.hid rfl⟩
            obtain ⟨w18, HW18⟩ : ∃ w18, Hid (w17.alloc (.cells #[.slice none 0 0] 22) = w18) := ⟨_, Lib.hid rfl⟩
            have HS18 : Hid (w18.heap.size = bq + 1) := by unfold Hid; rw [← HW18.out, World.size_alloc, HBQ.out]
            obtain ⟨w19, HW19⟩ : ∃ w19, Hid (w18.alloc (.cells #[.pointer (some ⟨bc + 1, 0, none⟩)] 53) = w19) := ⟨_, Lib.hid rfl⟩
            have HK18 : Hid (Keep nob w17 w18) := by unfold Hid; rw [← HW18.out]; exact (Keep.refl nob w17).alloc _
            have HK19 : Hid (Keep nob w18 w19) := by unfold Hid; rw [← HW19.out]; exact (Keep.refl nob w18).alloc _
            have HQ18 : Hid (w18.cell? ⟨bq, 0, none⟩ = some (.slice none 0 0) ∧ w18.there bq 0 1) := by
              unfold Hid
              rw [← HW18.out, ← HBQ.out]
              exact ⟨cell_alloc_new w17 _ 22, there_alloc_new w17 _ _ 1 (Nat.le_refl _)⟩
            have HX19 : Hid (w19.cell? ⟨bq + 1, 0, none⟩ = some (.pointer (some ⟨bc + 1, 0, none⟩))) := by
              unfold Hid
              rw [← HW19.out, ← HS18.out]
              exact cell_alloc_new w18 _ 53
            have he := fun (w : World) => run_eql_func_nil (P := Try.prog) w 77 Try.underlying77 (.func 71) #[] #[.pointer (some ⟨bq + 1, 0, none⟩)]
            go_upto_region 31 with (fail)
            rw [HBQ.out, HW18.out]
            go_wp2_with (go_at_call 42; go_must (refine (all_ok (some ⟨bc + 1, 0, none⟩) w18).mono ?_); rintro e w' ⟨rfl, hw⟩; rw [HW19.out] at hw; replace hw := hw.symm; subst hw; rw [HS18.out])
            have HB19 : Hid (BK o (bc + 1) T cs2 w13 w19) := BK.keep HB17.out (HK18.out.then_ HK19.out)
            have HQ19 : Hid (bq < w19.heap.size) := Nat.lt_of_lt_of_le (by rw [HS18.out]; exact Nat.lt_succ_self _) HK19.out.size
            have HG19 : Hid (Came bq w19 [] w19) := ⟨⟨none, 0, HK19.out.cell HQ18.out.1 (fun h => h), Ow.nil_ _ _ _, fun a h => by simp at h⟩, HK19.out.there HQ18.out.2 (fun h => h), Keep.refl _ _⟩
            have HSTOP : Hid (SeqStopsK Fence.wide 8 Try.prog 71 #[.pointer (some ⟨bq + 1, 0, none⟩)] (fun x : Item => #[EI.val x]) (RW (fun k => k = bq) bq 0) (fun ys => ys = zl) (fun pre => pre <+: zl) zl.length w19) := by
              obtain ⟨A, h1, _, _⟩ := HB19.out
              refine all_stops 8 zl (fun k => k = bq) bq 0 h1 (by have := HTL.out; omega) (by have := HC2L.out; omega) HX19.out HZL.out (fun k hw => ?_) HQ19.out
              rcases hw with hw | ⟨A2, n2, c2, g1, a, ha, e⟩
              · rw [hw]; exact HQ19.out
              · obtain ⟨Ar, cr, g2, _, g3⟩ := HG19.out.got
                rw [HK19.out.cell HQ18.out.1 (fun h => h)] at g1
                simp only [Option.some.injEq, Value.slice.injEq] at g1
                rw [← g1.1] at ha
                simp at ha
            have HZLL : Hid (zl.length ≤ 200000000) := by unfold Hid; rw [HZL.out.perm.length_eq, List.length_map]; exact HC2L.out
            generalize hAC : (Act.mk _ _) = ac
            have HAC := Lib.hid hAC
            refine wp_of_wide 9 (wpIn_rangeFunc_ownH (F := Fence.wide) (encs := fun x : Item => #[EI.val x]) rfl (by decide) (gf := 71) (lb := #[.pointer (some ⟨bq + 1, 0, none⟩)]) (by rw [← hAC]; rfl) trivial (enters_of Try.func71 (by kernel_rfl) rfl) HSTOP.out
              RW.trans (fun W l o o' hl h h1 h2 => RW.putObj HQ19.out W l o o' hl h h1 h2) (Below.refl _ _) (fun _ => rfl)
              (Came bq w19) (fun _ _ _ => False) Came.own (fun _ _ _ _ _ h _ _ => h) HG19.out
              (fun x a' W => ∃ bz, a' = { tmps := (ac.tmps.setIfInBounds 156 (EI.val x)).setIfInBounds 20 (.pointer (some ⟨bz, 0, none⟩)), defers := [] } ∧ W.cell? ⟨bz, 0, none⟩ = some (.int .i64 x.1) ∧ W.cell? ⟨bz, 1, none⟩ = some (.int .i64 x.2))
              ?ax ?assign ?body ?done ?stop)
            case stop => exact fun _ _ _ _ _ _ h _ => h.elim
            case ax =>
              rintro x a' _ W W' row ⟨bz, e, h1, h2⟩ hg hr
              have hck := CK.of_grown hg (fun r e => (hr r e).2)
              exact ⟨bz, e, (hck _ _ h1).1, (hck _ _ h2).1⟩
            case assign =>
              rintro l pre ⟨xk, xn⟩ W K hI hK
              subst hAC
              simp only [EI]
              gi_wp2
              have k1 : Keep (fun _ => False) W (W.alloc (.cells #[.int .i64 xk, .int .i64 xn] 27)) := (Keep.refl _ W).alloc _
              exact hK _ _ ((KeepsOthers.alloc W _).from _) (RW.of_kept k1 (Nat.lt_of_lt_of_le HQ19.out hI.keep.size)) (Came.own.alloc _ hI) ⟨W.heap.size, rfl, by simp, by simp⟩
            case body =>
              rintro l pre ⟨xk, xn⟩ a' W - - hI ⟨bz, rfl, h1, h2⟩ hlen
              have HI := Lib.hid hI
              obtain ⟨Ar, cr, hc, ho, hA⟩ := hI.got
              obtain ⟨p, HP⟩ : ∃ p, Hid (pre.length = p) := ⟨_, Lib.hid rfl⟩
              have HC := Lib.hid hc
              rw [HP.out] at hc
              have HO := Lib.hid ho
              have HA := Lib.hid hA
              have hpl : p ≤ 200000000 := by have := HZLL.out; have := HP.out; omega
              have hcr := ho.sl.cap
              have hcl := ho.sl.le
              rw [HP.out] at hcl
              obtain ⟨W1, HW1⟩ : ∃ W1, Hid (W.alloc (.cells #[.int .i64 xk, .int .i64 xn] 27) = W1) := ⟨_, Lib.hid rfl⟩
              have HK1 : Hid (Keep (fun _ => False) W W1) := by rw [← HW1.out]; exact (Keep.refl _ W).alloc _
              have HS1 : Hid (Sl EI W1 (some ⟨W.heap.size, 0, none⟩) 1 [((xk, xn) : Item)]) := by rw [← HW1.out]; exact Sl.one EI W _ _ 27 rfl
              have HO1 : Hid (Ow EI W1 Ar cr pre) := HO.out.keep HK1.out (nobIn _)
              have hb16 : (p + 1) * 16 ≤ 140737488355328 := by omega
              have hb63 : p + 1 ≤ 9223372036854775807 := by omega
              have HFIN : Hid (∀ A' c' W2, Appended EI W1 Ar (pre ++ [(xk, xn)]) A' c' W2 → W2.cell? ⟨bq, 0, none⟩ = some (.slice Ar p cr) ∧ W2.frozen? ⟨bq, 0, none⟩ = false ∧
                  KeepsFrom w19.heap.size W (W2.setCell ⟨bq, 0, none⟩ (.slice A' (p + 1) c')) ∧ RW (fun k => k = bq) bq 0 W (W2.setCell ⟨bq, 0, none⟩ (.slice A' (p + 1) c')) ∧ Came bq w19 (pre ++ [(xk, xn)]) (W2.setCell ⟨bq, 0, none⟩ (.slice A' (p + 1) c'))) := fun A' c' W2 hap => by
                have h3 := Came.next HQ19.out HI.out HC.out HA.out HO.out HK1.out hap (.inr (by have := hap.ow.sl.le; rw [List.length_append, List.length_singleton] at this; omega))
                rw [HP.out] at h3
                have hne : ¬ AtB Ar bq := fun ⟨a, ha, e⟩ => by have h4 := (HA.out a ha).1; have h5 := HQ19.out; omega
                refine ⟨?_, ?_, h3⟩
                · have h4 := HC.out
                  rw [HP.out] at h4
                  exact hap.keep.cell (HK1.out.cell h4 (fun h => h)) hne
                · exact (hap.keep.there (HK1.out.there HI.out.th (fun h => h)) hne 0 (by decide)).2
              clear hI hA ho hlen
              subst hAC
              simp only [EI]
              gi_wp2_with (gi_at_builtin; rw [HW1.out]; refine wpListIn_append_ow EI rfl _ _ 22 rfl 27 _ 16 Try.underlying22 info27 rfl Ar p cr rfl pre HP.out HO1.out (some ⟨W.heap.size, 0, none⟩) 1 1 rfl [((xk, xn) : Item)] rfl HS1.out hb16 hb63 ?_; intro A' c' W2 hap; obtain ⟨g1, g2, g3⟩ := HFIN.out A' c' W2 hap; have HG := Lib.hid g3; clear hap g3)
              exact HG.out
            case done =>
              rintro D xs' W hD rfl hI hDe
              have HI := Lib.hid hI
              have HDE := Lib.hid hDe
              have HDL := Lib.hid hD
              obtain ⟨Ar, cr, hc, ho, -⟩ := hI.got
              obtain ⟨ZN, HZN⟩ : ∃ n, Hid (xs'.length = n) := ⟨_, Lib.hid rfl⟩
              rw [HZN.out] at hc
              have HC0 := Lib.hid hc
              have HOR := Lib.hid ho
              have hcr := ho.sl.cap
              have hcl := ho.sl.le
              rw [HZN.out] at hcl
              have HIZ : Hid (i + ZN = T) := by
                have h1 := HPZ.out.length_eq
                rw [List.length_append, HFZL.out, HZN.out, HALB.out] at h1
                exact h1
              have HK1319 : Hid (Keep (KC (bc + 1)) w13 w19) := BK.kept HB19.out
              have HK13W : Hid (Keep (KC (bc + 1)) w13 W) := HK1319.out.then_ (HI.out.keep.mono (fun k _ h => .inr (by
                have h1 := HBQ.out
                have h2 := (BK.kept HB17.out).size
                have h3 := HS13.out
                have h4 : k = bq := h
                omega)))
              have HSAW : Hid (Sl EI W Aa ca az ∧ Sl EI W Ab cb bz) := HSD.out W HK13W.out
              have HOFW : Hid (Sl EI W Af cf fz) := ((HOF.out.keep HK18.out (nobIn _)).keep HK19.out (nobIn _)).sl.keep2 HI.out.keep (fun hne ⟨a, ha, e⟩ => by
                have h1 := HOF.out.sl.lt hne a ha
                have h2 := HBQ.out
                have h3 : a.block = bq := e
                omega)
              have HSK : Hid (∀ w', Keep nob W w' → w'.cell? ⟨bq, 0, none⟩ = some (.slice Ar ZN cr) ∧ Keep nob W w') := fun w' hk => ⟨hk.cell HC0.out (fun h => h), hk⟩
              have HSL : Hid (∀ w', Keep nob W w' → Sl EI w' Ar cr xs' ∧ Sl EI w' Af cf fz ∧ Sl EI w' Aa ca az ∧ Sl EI w' Ab cb bz) := fun w' hk =>
                ⟨HOR.out.sl.keep hk (nobIn _), HOFW.out.keep hk (nobIn _), HSAW.out.1.keep hk (nobIn _), HSAW.out.2.keep hk (nobIn _)⟩
              have HR43 : Hid (∀ w', Keep nob W w' → Calls Try.prog 43 #[.slice Ar ZN cr, .int .i64 o] w' fun e w'' => e = .returned (.bool true) ∧ Keep nob w' w'') := fun w' hk =>
                rises_ok o Ar cr ZN xs' w' HZN.out (HSL.out w' hk).1 (by have := HIZ.out; have := HTL.out; omega) (Sorts.rises (cmpR_keyed o) HZL.out)
              have HR44 : Hid (∀ A1 c1 A2 c2 w', Ow EI w' A1 c1 (fz ++ xs') → Ow EI w' A2 c2 (az ++ bz) → Calls Try.prog 44 #[.slice A1 T c1, .slice A2 T c2] w' fun e w'' => e = .returned (.bool true) ∧ Keep nob w' w'') := fun A1 c1 A2 c2 w' h1 h2 =>
                shuffled_ok A1 A2 c1 c2 T (fz ++ xs') (az ++ bz) w' HPZ.out (by rw [List.length_append, HFZL.out, HZN.out, HIZ.out]) h1.sl h2.sl (by have := HTL.out; omega)
              have HLV := Lib.hid lives_ok
              have hq1 : (0 + i) * 16 ≤ 140737488355328 := by have := HIZ.out; have := HTL.out; omega
              have hq2 : 0 + i ≤ 9223372036854775807 := by have := HIZ.out; have := HTL.out; omega
              have hq3 : (i + ZN) * 16 ≤ 140737488355328 := by have := HIZ.out; have := HTL.out; omega
              have hq4 : i + ZN ≤ 9223372036854775807 := by have := HIZ.out; have := HTL.out; omega
              have hq5 : (0 + L1) * 16 ≤ 140737488355328 := by have := HLL1.out; omega
              have hq6 : 0 + L1 ≤ 9223372036854775807 := by omega
              have hq7 : (L1 + L2) * 16 ≤ 140737488355328 := by have := HLL1.out; have := HLL2.out; omega
              have hq8 : L1 + L2 ≤ 9223372036854775807 := by omega
              have HC : Hid (Keep nob W W.drew) := (Keep.refl nob W).drew
              have tok1 := Lib.hid True.intro
              have tok2 := Lib.hid True.intro
              have tok3 := Lib.hid True.intro
              clear hI hDe hD hc ho
              subst hAC
              have HDK : Hid (∀ w', Keep nob W w' → w'.heap[D]? = some (.deferred (some []))) := fun w' hk => (hk.block D (Array.getElem?_eq_some_iff.1 HDE.out).1 (fun h => h)).trans HDE.out
              have HFIN : Hid (∀ w' w'', Keep nob W w' → Keep (fun k => k ∈ [D]) w' w'' → Keep nob w w'') := fun w' w'' h1 h2 => by
                have k1 : Keep (fun k => bc ≤ k) w5 W := HK513.out.then_ (HK13W.out.mono (fun k _ h => by show bc ≤ k; rcases h with h | h <;> omega))
                have k2 : Keep (fun k => bc ≤ k) w5 w'' := (k1.then_ (h1.mono (fun _ _ h => h.elim))).then_ (h2.mono (fun k _ h => by
                  have e : k = D := by simpa using h
                  have g1 := HDL.out
                  have g2 := HK1319.out.size
                  have g3 := HS13.out
                  show bc ≤ k
                  omega))
                exact HK5.out.trans k2 (fun k hk h => by have h3 : bc ≤ k := h; have h4 := HWB.out; omega)
              go_upto_region 37 with (fail)
              go_region_held3 (fun w' => w'.cell? ⟨bq, 0, none⟩ = some (.slice Ar ZN cr) ∧ Keep nob W w') (exact HSK.out _ (by first | exact HC.out | exact HC.out.alloc _ | exact (HC.out.alloc _).alloc _))
                (first
                  | (go_at_call 43; refine (HR43.out _ (by first | exact HC.out | exact HC.out.alloc _ | exact (HC.out.alloc _).alloc _)).mono ?_; rintro e w1 ⟨rfl, hk⟩; replace HC := Lib.hid (HC.out.then_ hk); clear hk)
                  | (have _t := tok1; rw [if_pos (by rfl)]; refine wp_append_three EI _ _ 22 rfl 27 _ 16 Try.underlying22 info27 rfl _ 0 0 rfl [] rfl (Ow.nil_ _ _ _) Af i cf rfl fz HFZL.out (HSL.out _ (by first | exact HC.out | exact HC.out.alloc _ | exact (HC.out.alloc _).alloc _)).2.1 hq1 hq2 ?_; intro A1' c1' w2 hap; rw [List.nil_append] at hap; have hcur := hap.at_ (p := Keep nob W) (by first | exact HC.out | exact HC.out.alloc _ | exact (HC.out.alloc _).alloc _); have HX1 := Lib.hid (And.intro (fun hc a ha => Nat.le_trans hcur.size (hap.first.2 hc a ha)) hap.ow); replace HC := Lib.hid (hcur.then_ hap.first.1); rw [Nat.zero_add]; clear hap hcur _t tok1)
                  | (have _t := tok2; rw [if_pos (by rfl)]; refine wp_append_three EI _ _ 22 rfl 27 _ 16 Try.underlying22 info27 rfl A1' i c1' rfl fz HFZL.out (by first | exact HX1.out.2 | exact HX1.out.2.keep ((Keep.refl nob _).alloc _) (nobIn _) | exact HX1.out.2.keep (((Keep.refl nob _).alloc _).alloc _) (nobIn _)) Ar ZN cr rfl xs' HZN.out (HSL.out _ (by first | exact HC.out | exact HC.out.alloc _ | exact (HC.out.alloc _).alloc _)).1 hq3 hq4 ?_; intro A2' c2' w3' hap; have hcur := hap.at_ (p := Keep nob W) (by first | exact HC.out | exact HC.out.alloc _ | exact (HC.out.alloc _).alloc _); have HX2 := Lib.hid (And.intro (hap.then_ hcur HX1.out.1).2 hap.ow); replace HC := Lib.hid (hap.then_ hcur HX1.out.1).1; rw [HIZ.out]; clear hap hcur _t tok2)
                  | (have _t := tok3; rw [if_pos (by rfl)]; refine wp_append_three EI _ _ 22 rfl 27 _ 16 Try.underlying22 info27 rfl _ 0 0 rfl [] rfl (Ow.nil_ _ _ _) Aa L1 ca rfl az HAL.out (HSL.out _ (by first | exact HC.out | exact HC.out.alloc _ | exact (HC.out.alloc _).alloc _)).2.2.1 hq5 hq6 ?_; intro A3' c3' w4' hap; rw [List.nil_append] at hap; have hcur := hap.at_ (p := Keep nob W) (by first | exact HC.out | exact HC.out.alloc _ | exact (HC.out.alloc _).alloc _); have HOP := hap.at_ (p := fun w => Hid (Ow EI w A2' c2' (fz ++ xs'))) (by first | exact HX2.out.2 | exact HX2.out.2.keep ((Keep.refl nob _).alloc _) (nobIn _) | exact HX2.out.2.keep (((Keep.refl nob _).alloc _).alloc _) (nobIn _)); have HX3 := Lib.hid (And.intro hap.first.2 hap.ow); have HOQ := Lib.hid (HOP.out.keep hap.first.1 (nobIn _)); have HCP := Lib.hid hcur; replace HC := Lib.hid (hcur.then_ hap.first.1); rw [Nat.zero_add]; clear hap hcur _t tok3)
                  | (rw [if_pos (by rfl)]; refine wp_append_three EI _ _ 22 rfl 27 _ 16 Try.underlying22 info27 rfl A3' L1 c3' rfl az HAL.out HX3.out.2 Ab L2 cb rfl bz HBL.out (HSL.out _ (by first | exact HC.out | exact HC.out.alloc _ | exact (HC.out.alloc _).alloc _)).2.2.2 hq7 hq8 ?_; intro A4' c4' w5' hap; have HO4 := Lib.hid (hap.other HX3.out.1 HOP.out HOQ.out); have HO5 := Lib.hid hap.ow; replace HC := Lib.hid (hap.then_ HC.out (fun hc a ha => Nat.le_trans HCP.out.size (HX3.out.1 hc a ha))).1; rw [HT.out]; clear hap)
                  | (go_at_call 20; refine (HLV.out _).mono ?_; rintro e wl ⟨rfl, hk⟩; replace HC := Lib.hid (HC.out.then_ hk); clear hk)
                  | (go_at_call 44; refine (HR44.out _ _ _ _ _ HO4.out HO5.out).mono ?_; rintro e w6' ⟨rfl, hk⟩; replace HC := Lib.hid (HC.out.then_ hk); clear hk))
              all_goals go_wp2_with (fail)
              all_goals exact leaves_marks [D] _ (by simp) (fun D' hD' => by obtain rfl := List.mem_singleton.1 hD'; exact HDK.out _ HC.out) (fun W' k1 k2 => ⟨_, results_tmp rfl _ _ _, rfl, HFIN.out _ _ HC.out k1⟩)
end Go.Proofs.Ytnofckgnnpmiiaa
