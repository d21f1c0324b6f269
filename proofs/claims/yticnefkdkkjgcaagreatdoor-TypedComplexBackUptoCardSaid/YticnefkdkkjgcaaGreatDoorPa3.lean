/- nat.Shl. -/
import Derived.Laws.Cover1
import Derived.StillTail
import Derived.Deep.CutRange
import Derived.Test.YticnefkdkkjgcaaGreatDoorPa2
namespace Go.Proofs.YticnefkdkkjgcaaGreatDoor
open Go.RowKit

section
variable {α : Type} {E : El α} {w : World}
theorem range_puts {b o i : Nat} {xs : List α} (hr : w.rangeAt b o (E.flat xs)) (ys : List α) (hi : i + ys.length ≤ xs.length) (ht : w.there b (o + i * E.sz) (ys.length * E.sz)) :
    (w.setCells b (o + i * E.sz) (E.flat ys)).rangeAt b o (E.flat (xs.take i ++ (ys ++ xs.drop (i + ys.length)))) := by
  have hx : xs = xs.take i ++ ((xs.drop i).take ys.length ++ xs.drop (i + ys.length)) := by
    rw [← List.drop_drop, List.take_append_drop, List.take_append_drop]
  have hl : (xs.take i).length = i := by simp; omega
  have hl2 : ((xs.drop i).take ys.length).length = ys.length := by simp; omega
  rw [hx, E.flat_app, E.flat_app, range_app, range_app, E.flat_len, E.flat_len, hl, hl2] at hr
  rw [E.flat_app, E.flat_app, range_app, range_app, E.flat_len, hl, E.flat_len]
  refine ⟨World.rangeAt_setCells_apart hr.1 _ _ _ (.inr (.inl ?_)), World.rangeAt_setCells_same _ _ _ _ (by rw [E.flat_len]; exact ht), World.rangeAt_setCells_apart hr.2.2 _ _ _ (.inr (.inr ?_))⟩
  · rw [E.flat_len, hl]; exact Nat.le_refl _
  · rw [E.flat_len]; exact Nat.le_refl _
theorem Ow.puts {b o c i : Nat} {xs : List α} (h : Ow E w (some ⟨b, o, none⟩) c xs) (ys : List α) (hi : i + ys.length ≤ xs.length) (hn : xs ≠ []) :
    Ow E (w.setCells b (o + i * E.sz) (E.flat ys)) (some ⟨b, o, none⟩) c (xs.take i ++ (ys ++ xs.drop (i + ys.length))) := by
  have hle := h.sl.le
  have hp : 0 < xs.length := List.length_pos_iff.2 hn
  obtain ⟨b', o', e', ht⟩ := h.room (by omega)
  simp only [Option.some.injEq, Addr.mk.injEq, and_true] at e'
  obtain ⟨rfl, rfl⟩ := e'
  have h1 : i * E.sz + ys.length * E.sz ≤ c * E.sz := by
    rw [← Nat.add_mul]
    exact Nat.mul_le_mul_right _ (by omega)
  refine ⟨⟨by simp; omega, h.sl.cap, fun _ => ⟨b, o, rfl, ?_⟩⟩, fun _ => ⟨b, o, rfl, World.there_setCells ht _ _ _⟩⟩
  obtain ⟨b', o', e', hr⟩ := h.sl.at_ hn
  simp only [Option.some.injEq, Addr.mk.injEq, and_true] at e'
  obtain ⟨rfl, rfl⟩ := e'
  exact range_puts hr ys hi (there_sub ht (by omega) (by omega))
end
/-- what a slice's cell reads -/
theorem ow_cell {w : World} {b c i x : Nat} {xs : List Nat} (h : Ow EU w (some ⟨b, 0, none⟩) c xs) (hi : i < xs.length) (hx : xs.getD i 0 = x) : w.cell? ⟨b, i, none⟩ = some (.int .u32 (x : Int)) := by
  obtain ⟨b1, o1, e1, hr⟩ := h.sl.elem (i := i) hi
  simp only [Option.some.injEq, Addr.mk.injEq, and_true] at e1
  obtain ⟨rfl, rfl⟩ := e1
  have h1 := hr 0 _ rfl
  simp only [EU, Nat.add_zero, Nat.mul_one, Nat.zero_add] at h1
  rw [h1, show xs[i] = x by rw [← hx, List.getD_eq_getElem?_getD, List.getElem?_eq_getElem hi]; rfl]
theorem ow_free {w : World} {b c i : Nat} {xs : List Nat} (h : Ow EU w (some ⟨b, 0, none⟩) c xs) (hi : i < xs.length) : w.frozen? ⟨b, i, none⟩ = false := by
  have hle := h.sl.le
  obtain ⟨b', o', e', ht⟩ := h.room (by omega)
  simp only [Option.some.injEq, Addr.mk.injEq, and_true] at e'
  obtain ⟨rfl, rfl⟩ := e'
  have := (ht i (by simp only [EU]; omega)).2
  rwa [Nat.zero_add] at this
theorem ow_put {w : World} {b c i : Nat} {xs : List Nat} (h : Ow EU w (some ⟨b, 0, none⟩) c xs) (hi : i < xs.length) (x : Nat) : Ow EU (w.setCell ⟨b, i, none⟩ (.int .u32 (x : Int))) (some ⟨b, 0, none⟩) c (xs.set i x) := by
  have := h.put hi x
  rwa [show w.setCells b (0 + i * EU.sz) (EU.cells x) = w.setCell ⟨b, i, none⟩ (.int .u32 (x : Int)) by simp [EU, World.setCells]] at this

theorem run_slice_lo {P : Program} (w : World) (t e : TypeId) (sz : Nat) (ht : P.underlying t = some (.slice e)) (hsz : (P.info? e).map (·.size) = some sz) (b o n c lo : Nat) (h1 : lo ≤ n) (h2 : n ≤ c) (h3 : 0 < n - lo) :
    (Instr.slice t (.slice (some ⟨b, o, none⟩) n c) (some (.int .i64 (lo : Int))) none none).run P w = .ok (.slice (some ⟨b, o + lo * sz, none⟩) (n - lo) (c - lo)) w := by
  obtain ⟨i, hi', his⟩ := Option.map_eq_some_iff.1 hsz
  have h4 : ¬ (c = lo) := by omega
  simp [Instr.slice, run_underlying ht, Instr.sliceBounds, Instr.sliceBound, sizeOf, typeInfo, hi', asIntOf, h1, his, h4, Addr.add]
set_option maxRecDepth 100000 in
set_option maxHeartbeats 1000000 in
theorem nShl_ok (A : Option Addr) (c L n : Nat) (l : List Nat) (w : World) (hL : l.length = L) (h : Sl EU w A c l) (hb : Bd l) (hl : L ≤ 1000000) (hn : n + bitsN (valL l) ≤ 8388608) :
    Calls Tryz.prog 97 #[.slice A L c, .int .i64 (n : Int)] w fun e w' => Keep nob w w' ∧ ∃ A', e = .returned (.tuple #[.slice A' (numL (valL l * 2 ^ n)).length (numL (valL l * 2 ^ n)).length, .bool true]) ∧ Sl EU w' A' (numL (valL l * 2 ^ n)).length (numL (valL l * 2 ^ n)) ∧ Lies (fun k => w.heap.size ≤ k) A' (numL (valL l * 2 ^ n)) := by
  have hC := cut_ok A c L l w hL h
  have hcs := cut_sl h
  have hcl := cutL_len l
  have hle := cutN_le l L
  have hLen := nLen_ok A (cutN l L) (cutN l L) (cutL l) w (by rw [cutL_len, hL]) (by rw [← hL]; exact hcs) (hb.take _) (by omega)
  rw [cutL_val] at hLen
  obtain ⟨k, HK⟩ : ∃ k, Hid (cutN l L = k) := ⟨_, Lib.hid rfl⟩
  rw [hL, HK.out] at hcl hcs
  rw [HK.out] at hC hle hLen
  obtain ⟨v, HV⟩ : ∃ v, Hid (valL l = v) := ⟨_, Lib.hid rfl⟩
  have hcn := cutL_num hb
  rw [HV.out] at hn hLen hcn ⊢
  obtain ⟨R, HR⟩ : ∃ R, Hid (numL (v * 2 ^ n) = R) := ⟨_, Lib.hid rfl⟩
  rw [HR.out]
  have hn0 : decide ((n : Int) < 0) = false := by rw [decide_eq_false_iff_not]; omega
  rcases Nat.eq_zero_or_pos k with h0 | h0
  · subst h0
    have hR0 : R = [] := by
      rw [List.eq_nil_of_length_eq_zero hcl] at hcn
      rw [← HR.out, (numL_zero_iff v).1 hcn.symm, Nat.zero_mul]
      rfl
    subst hR0
    clear hb hcs hcl hcn hn hLen
    go_enter Tryz.func97, Tryz.ntmps97
    go_wp2_with (go_at_call 106; go_must (refine hC.mono ?_); rintro e w1 ⟨rfl, rfl⟩)
    go_ret2
    exact ⟨Keep.refl _ _, none, rfl, Sl.nil_ EU w1 none (Nat.zero_le _), fun h => absurd rfl h⟩
  · have hk0 : ((k : Int) == 0) = false := by rw [beq_eq_false_iff_ne]; omega
    obtain ⟨bt, HBT⟩ : ∃ bt, Hid (bitsN v = bt) := ⟨_, Lib.hid rfl⟩
    rw [HBT.out] at hn hLen
    have i1 : IntKind.i64.wrap (8388608 - (bt : Int)) = 8388608 - (bt : Int) := by rw [IntWalk.i64_left, IntWalk.wrap64_in _ ⟨by omega, by omega⟩]
    have i2 : decide ((n : Int) > 8388608 - (bt : Int)) = false := by rw [decide_eq_false_iff_not]; omega
    obtain ⟨q, HQ⟩ : ∃ q, Hid (n / 32 = q) := ⟨_, Lib.hid rfl⟩
    obtain ⟨r, HRR⟩ : ∃ r, Hid (n % 32 = r) := ⟨_, Lib.hid rfl⟩
    have hnq : n = 32 * q + r := by rw [← HQ.out, ← HRR.out]; omega
    have hr32 : r < 32 := by rw [← HRR.out]; omega
    have hq6 : q ≤ 262144 := by omega
    have i3 : Int.tdiv (n : Int) 32 = (q : Int) := by rw [← HQ.out]; rfl
    have i3w : IntKind.i64.wrap (q : Int) = (q : Int) := by rw [IntWalk.i64_left, IntWalk.wrap64_in _ ⟨by omega, by omega⟩]
    have i4 : Int.tmod (n : Int) 32 = (r : Int) := by rw [← HRR.out]; rfl
    have i4w : IntKind.i64.wrap (r : Int) = (r : Int) := by rw [IntWalk.i64_left, IntWalk.wrap64_in _ ⟨by omega, by omega⟩]
    have i5 : IntKind.i64.wrap ((q : Int) + (k : Int)) = (q : Int) + (k : Int) := by rw [IntWalk.i64_left, IntWalk.wrap64_in _ ⟨by omega, by omega⟩]
    obtain ⟨m, HM⟩ : ∃ m, Hid (q + k + 1 = m) := ⟨_, Lib.hid rfl⟩
    have hm6 : m ≤ 2000000 := by rw [← HM.out]; omega
    have i6 : IntKind.i64.wrap ((q : Int) + (k : Int) + 1) = (m : Int) := by rw [← HM.out, IntWalk.i64_left, IntWalk.wrap64_in _ ⟨by omega, by omega⟩]; omega
    have i6' : (q : Int) + (k : Int) + 1 = (m : Int) := by rw [← HM.out]; omega
    have HCS := Lib.hid hcs
    have HCL := Lib.hid hcl
    have HNQ := Lib.hid hnq
    have HBD := Lib.hid (hb.take k)
    have HTK : Hid (l.take k = cutL l) := by unfold Hid cutL; rw [hL, HK.out]
    rw [HTK.out] at HBD
    have HCN := Lib.hid hcn
    clear hb hcs hcl hcn hnq
    go_enter Tryz.func97, Tryz.ntmps97
    go_upto_region 9 with (first | (go_at_call 106; go_must (refine hC.mono ?_); rintro e w1 ⟨rfl, rfl⟩) | (go_at_call 128; go_must (refine hLen.mono ?_); rintro e w2 ⟨rfl, rfl⟩) | (at_make; refine wpList_make_E EU rfl _ _ 34 rfl 82 _ 4 Tryz.underlying34 infoU32 m m _ _ rfl rfl rfl rfl (Nat.le_refl _) (by omega) (by omega) ?_; intro w3 HW3))
    obtain ⟨bm, HBM⟩ : ∃ bm, Hid (w2.heap.size = bm) := ⟨_, Lib.hid rfl⟩
    have HO3 : Hid (Ow EU w3 (some ⟨bm, 0, none⟩) m (List.replicate m (0 : Nat))) := by rw [← HBM.out, HW3.out]; exact ow_made EU w2 82 (.int .u32 0) 0 rfl m m (Nat.le_refl _) (by omega)
    have HK3 : Hid (Keep nob w2 w3) := by rw [HW3.out]; exact (Keep.refl _ w2).alloc _
    clear HW3
    rw [HBM.out]
    have hqm : q ≤ m := by have := HM.out; omega
    have HSL : Hid (Sl EU w3 A k (cutL l)) := Lib.hid (HCS.out.keep HK3.out (fun ⟨_, _, h⟩ => h))
    have HMQ : Hid (m - q = k + 1) := by unfold Hid; have := HM.out; omega
    obtain ⟨mq, HMQ2⟩ : ∃ mq, Hid (m - q = mq) := ⟨_, Lib.hid rfl⟩
    have hth : w3.there bm q (k * EU.sz) := by
      obtain ⟨b', o', e', ht⟩ := HO3.out.room (by have := HM.out; omega)
      simp only [Option.some.injEq, Addr.mk.injEq, and_true] at e'
      obtain ⟨rfl, rfl⟩ := e'
      exact there_sub ht (by omega) (by have := HMQ.out; simp only [EU, Nat.mul_one]; omega)
    have HTH := Lib.hid hth
    have hmq0 : 0 < m - q := by have := HMQ.out; omega
    have hsli := run_slice_lo (P := Tryz.prog) w3 34 82 1 Tryz.underlying34 sizeU32 bm 0 m m q hqm (Nat.le_refl _) hmq0
    rw [HMQ2.out, Nat.zero_add, Nat.mul_one] at hsli
    clear hth
    go_upto_region 10 with (refine wpList_copy_E EU rfl _ _ 34 34 rfl 82 Tryz.underlying34 sizeU32 (some ⟨bm, q, none⟩) mq mq rfl A k k rfl (cutL l) HCL.out HSL.out k (by have := HMQ.out; have := HMQ2.out; simp only [Nat.min_def]; split <;> omega) (fun _ => ⟨bm, q, rfl, HTH.out⟩) ?_; intro w4 h40 h41)
    obtain ⟨o, HOD⟩ : ∃ o, Hid (List.replicate q 0 ++ cutL l ++ [0] = o) := ⟨_, Lib.hid rfl⟩
    have hol : Hid (o.length = m) := by unfold Hid; rw [← HOD.out]; have := HM.out; have := HCL.out; simp; omega
    have hob : Hid (Bd o) := by
      unfold Hid
      rw [← HOD.out]
      intro x hx
      simp only [List.mem_append, List.mem_replicate, List.mem_singleton] at hx
      rcases hx with (⟨_, rfl⟩ | hx) | rfl
      · decide
      · exact HBD.out x hx
      · decide
    have hw4 : Hid (w4 = w3.setCells bm (0 + q * EU.sz) (EU.flat (cutL l))) := by
      unfold Hid
      have := h41.out bm q h0 rfl
      rw [List.take_of_length_le (by rw [HCL.out]; exact Nat.le_refl _)] at this
      simpa [EU] using this
    have HO4 : Hid (Ow EU w4 (some ⟨bm, 0, none⟩) m o) := by
      unfold Hid
      have h1 := HO3.out.puts (i := q) (cutL l) (by rw [List.length_replicate, HCL.out]; have := HM.out; omega) (fun e => by have := congrArg List.length e; simp at this; have := HM.out; omega)
      rw [← hw4.out] at h1
      rw [List.take_replicate, List.drop_replicate, HCL.out, Nat.min_eq_left hqm, show m - (q + k) = 1 by have := HM.out; omega] at h1
      rw [← HOD.out, List.append_assoc]
      exact h1
    have HK4 : Hid (Keep (· = bm) w3 w4) := by unfold Hid; rw [hw4.out]; exact (Keep.refl _ w3).setCells _ _ (fun _ => rfl)
    have HTR : Hid (R = cutL (shlC r 0 o)) := by
      unfold Hid
      have h1 := shl_num (q := q) hr32 HBD.out
      rw [HOD.out, cutL_val, HV.out, ← HNQ.out, HR.out] at h1
      exact h1.symm
    have HBW : Hid (bm < w3.heap.size) := by
      obtain ⟨b', o', e', hlt⟩ := HO3.out.lt (by have := HM.out; omega)
      simp only [Option.some.injEq, Addr.mk.injEq, and_true] at e'
      obtain ⟨rfl, rfl⟩ := e'
      exact hlt
    have HEND := Lib.hid (fun (wf : World) (T : List Nat) (ho : Ow EU wf (some ⟨bm, 0, none⟩) m T) (hTm : T.length = m) => cut_ok (some ⟨bm, 0, none⟩) m m T wf hTm ho.sl)
    have HFIN : Hid (∀ (wf : World) (T : List Nat), shlC r 0 o = T → T.length = m → Ow EU wf (some ⟨bm, 0, none⟩) m T → Keep (· = bm) w3 wf → Keep nob w2 wf ∧ ∃ A', Ending.returned (Value.tuple #[.slice (some ⟨bm, 0, none⟩) (cutN T m) (cutN T m), .bool true]) = .returned (.tuple #[.slice A' R.length R.length, .bool true]) ∧ Sl EU wf A' R.length R ∧ Lies (fun k => w2.heap.size ≤ k) A' R) := by
      intro wf T hT hTm ho hk
      have h1 := cut_sl ho.sl
      have hRl : R.length = cutN T m := by rw [HTR.out, hT, cutL_len, hTm]
      rw [hRl, HTR.out, hT]
      rw [hTm] at h1
      exact ⟨HK3.out.trans hk (fun j h1 h2 => by have := HBM.out; omega), _, rfl, h1, fun _ => ⟨_, rfl, by have := HBM.out; simp only; omega⟩⟩
    rcases Nat.eq_zero_or_pos r with hr0 | hr0
    · have hrd : decide ((r : Int) > 0) = false := by rw [decide_eq_false_iff_not]; omega
      have hT0 : shlC r 0 o = o := by rw [hr0]; exact shlC_zero hob.out
      have HE := Lib.hid (HEND.out w4 o HO4.out hol.out)
      go_wp2_with (go_at_call 106; go_must (refine HE.out.mono ?_); rintro e w5 ⟨rfl, rfl⟩)
      go_ret2
      exact HFIN.out _ o hT0 hol.out HO4.out HK4.out
    · have hrd : decide ((r : Int) > 0) = true := by rw [decide_eq_true_iff]; omega
      obtain ⟨T, HT⟩ : ∃ T, Hid (shlG r m o = T) := ⟨_, Lib.hid rfl⟩
      have HTC : Hid (shlC r 0 o = T) := by unfold Hid; rw [← HT.out, ← hol.out, shlG_eq (Nat.le_of_lt hr32) hob.out]
      have HTL : Hid (T.length = m) := by unfold Hid; rw [← HT.out, shlG_len, hol.out]
      obtain ⟨s, HS⟩ : ∃ s, Hid (32 - r = s) := ⟨_, Lib.hid rfl⟩
      have j1 : IntKind.i64.wrap (32 - (r : Int)) = (s : Int) := by rw [← HS.out, IntWalk.i64_left, IntWalk.wrap64_in _ ⟨by omega, by omega⟩]; omega
      have j1' : 32 - (r : Int) = (s : Int) := by rw [← HS.out]; omega
      have hs32 : s < 32 := by rw [← HS.out]; omega
      go_wp2_with (fail)
      go_loopw [7, 8, 43] (fun u7 u8 u43 wr => ∃ (i : Nat) (cur : List Nat), i ≤ m ∧ u43 = .int .i64 (i : Int) ∧ Hid (shlG r (m - i) cur = T) ∧ Hid (cur.length = m) ∧ Hid (Bd cur) ∧ Hid (Ow EU wr (some ⟨bm, 0, none⟩) m cur) ∧ Hid (Keep (· = bm) w3 wr)) (fun _ _ u43 _ => m - (intOf u43).toNat)
      case atStart => exact ⟨0, o, Nat.zero_le _, rfl, HT, hol, hob, HO4, HK4⟩
      case round =>
        obtain ⟨i, cur, hi, rfl, HG, HCU, HBC, HO, HK⟩ := hrel
        rcases Nat.lt_or_ge i m with hlt | hge
        · have hlt2 : decide ((i : Int) < (m : Int)) = true := by rw [decide_eq_true_iff]; omega
          obtain ⟨j, HJ⟩ : ∃ j, Hid (m - 1 - i = j) := ⟨_, Lib.hid rfl⟩
          have hjm : j < m := by rw [← HJ.out]; omega
          have j2 : IntKind.i64.wrap ((m : Int) - 1) = (m : Int) - 1 := by rw [IntWalk.i64_left, IntWalk.wrap64_in _ ⟨by omega, by omega⟩]
          have j3' : (m : Int) - 1 - (i : Int) = (j : Int) := by rw [← HJ.out]; omega
          have j3 : IntKind.i64.wrap ((m : Int) - 1 - (i : Int)) = (j : Int) := by rw [j3', IntWalk.i64_left, IntWalk.wrap64_in _ ⟨by omega, by omega⟩]
          have hj0 : (0 : Int) ≤ (j : Int) := by omega
          have hj1 : (j : Int) < (m : Int) := by omega
          have hjc : j < cur.length := by rw [HCU.out]; exact hjm
          obtain ⟨x, HX⟩ : ∃ x, Hid (cur.getD j 0 = x) := ⟨_, Lib.hid rfl⟩
          have hx1 := ow_cell HO.out hjc HX.out
          have hf1 := ow_free HO.out hjc
          have hx32 : x < 4294967296 := by rw [← HX.out]; exact HBC.out.getD _
          obtain ⟨x1, HX1⟩ : ∃ x1, Hid (x * 2 ^ r % 4294967296 = x1) := ⟨_, Lib.hid rfl⟩
          have hx132 : x1 < 4294967296 := by rw [← HX1.out]; exact Nat.mod_lt _ (by decide)
          have j4 : IntKind.u32.wrap ((x : Int) * 2 ^ r) = (x1 : Int) := by
            rw [IntKind.wrap_u32, ← HX1.out, show (x : Int) * 2 ^ r = ((x * 2 ^ r : Nat) : Int) by rw [Int.natCast_mul, Int.natCast_pow]; rfl]
            omega
          have HP1 := Lib.hid (ow_put HO.out hjc x1)
          have HK5 : Hid (Keep (· = bm) w3 (wr.setCell ⟨bm, j, none⟩ (.int .u32 (x1 : Int)))) := Lib.hid (HK.out.setCell (fun _ => rfl) _)
          have hcl1 : (cur.set j x1).length = m := by rw [List.length_set, HCU.out]
          have hc1 := ow_cell (i := j) (x := x1) HP1.out (by rw [hcl1]; exact hjm) (by rw [getD_set, if_pos ⟨rfl, hjc⟩])
          have hf2 := ow_free (i := j) HP1.out (by rw [hcl1]; exact hjm)
          have HCL1 := Lib.hid hcl1
          have HJC := Lib.hid hjc
          have hst : m - i = j + 1 := by rw [← HJ.out]; omega
          have hst2 : m - (i + 1) = j := by rw [← HJ.out]; omega
          have HG2 : Hid (shlG r j (cur.set j (x1 ||| (if 0 < j then cur.getD (j - 1) 0 / 2 ^ (32 - r) else 0))) = T) := by
            have := HG.out
            rw [hst, shlG, HX.out, HX1.out] at this
            exact Lib.hid this
          have HST2 := Lib.hid hst2
          clear hjc hcl1 hst hst2
          go_upto_region 17 with (fail)
          obtain ⟨w5, HW5⟩ : ∃ w5, Hid (wr.setCell ⟨bm, j, none⟩ (.int .u32 (x1 : Int)) = w5) := ⟨_, Lib.hid rfl⟩
          rw [HW5.out] at HP1 HK5 hc1 hf2 ⊢
          rcases Nat.eq_zero_or_pos j with hjz | hjz
          · subst hjz
            rw [if_neg (Nat.lt_irrefl 0), Nat.or_zero] at HG2
            go_wp2
            refine ⟨⟨i + 1, cur.set 0 x1, by omega, rfl, ?_, HCL1, ?_, HP1, HK5⟩, by simp [intOf]; omega⟩
            · unfold Hid; rw [HST2.out]; exact HG2.out
            · intro y hy
              rcases List.mem_or_eq_of_mem_set hy with hy | rfl
              · exact HBC.out y hy
              · exact hx132
          · have hjd : decide ((j : Int) > 0) = true := by rw [decide_eq_true_iff]; omega
            rw [if_pos hjz, HS.out] at HG2
            obtain ⟨y, HY⟩ : ∃ y, Hid (cur.getD (j - 1) 0 = y) := ⟨_, Lib.hid rfl⟩
            have hy32 : y < 4294967296 := by rw [← HY.out]; exact HBC.out.getD _
            rw [HY.out] at HG2
            obtain ⟨p, HPJ⟩ : ∃ p, Hid (j - 1 = p) := ⟨_, Lib.hid rfl⟩
            have hpj : p < m := by rw [← HPJ.out]; omega
            have hc2 := ow_cell (i := p) (x := y) HP1.out (by rw [HCL1.out]; exact hpj) (by rw [getD_set, if_neg (by rw [← HPJ.out]; omega), ← HPJ.out]; exact HY.out)
            have j5 : IntKind.i64.wrap ((j : Int) - 1) = (p : Int) := by rw [← HPJ.out, IntWalk.i64_left, IntWalk.wrap64_in _ ⟨by omega, by omega⟩]; omega
            have j5' : (j : Int) - 1 = (p : Int) := by rw [← HPJ.out]; omega
            have j8 : IntKind.i64.wrap (p : Int) = (p : Int) := by rw [IntWalk.i64_left, IntWalk.wrap64_in _ ⟨by omega, by omega⟩]
            have j9 : IntKind.i64.wrap (s : Int) = (s : Int) := by rw [IntWalk.i64_left, IntWalk.wrap64_in _ ⟨by omega, by omega⟩]
            have hp0 : (0 : Int) ≤ (p : Int) := by omega
            have hp1 : (p : Int) < (m : Int) := by omega
            obtain ⟨ys, HYS⟩ : ∃ ys, Hid (y / 2 ^ s = ys) := ⟨_, Lib.hid rfl⟩
            have j6 : (y : Int) / 2 ^ s = (ys : Int) := by rw [← HYS.out, Int.natCast_ediv, Int.natCast_pow]; rfl
            have hys32 : ys < 4294967296 := by rw [← HYS.out]; exact Nat.lt_of_le_of_lt (Nat.div_le_self _ _) hy32
            rw [HYS.out] at HG2
            obtain ⟨z, HZ⟩ : ∃ z, Hid (x1 ||| ys = z) := ⟨_, Lib.hid rfl⟩
            have j7 : bits .or .u32 (x1 : Int) (ys : Int) = (z : Int) := by rw [u32_or_nat x1 ys hx132 hys32, HZ.out]
            have hz32 : z < 4294967296 := by rw [← HZ.out]; exact Nat.or_lt_two_pow (n := 32) hx132 hys32
            rw [HZ.out] at HG2
            go_upto_region 18 with (fail)
            go_still_tail 14, (by kernel_rfl)
            change wpList _ _ _ _ _ w5.drew
            have HPD : Hid (Ow EU (w5.drew.setCell ⟨bm, j, none⟩ (.int .u32 (z : Int))) (some ⟨bm, 0, none⟩) m (cur.set j z)) := by
              have h1 := ow_put (HP1.out.keep ((Keep.refl nob w5).drew) (fun ⟨_, _, h⟩ => h)) (i := j) (by rw [HCL1.out]; exact hjm) z
              rw [List.set_set] at h1
              exact Lib.hid h1
            have HKD : Hid (Keep (· = bm) w3 (w5.drew.setCell ⟨bm, j, none⟩ (.int .u32 (z : Int)))) := Lib.hid ((HK5.out.drew).setCell (fun _ => rfl) _)
            have hzd : w5.drew.cell? ⟨bm, j, none⟩ = some (.int .u32 (x1 : Int)) := hc1
            have hfd : w5.drew.frozen? ⟨bm, j, none⟩ = false := hf2
            obtain ⟨wd, HWD⟩ : ∃ wd, Hid (w5.drew = wd) := ⟨_, Lib.hid rfl⟩
            rw [HWD.out] at HPD HKD hzd hfd ⊢
            go_wp2
            refine ⟨⟨i + 1, cur.set j z, by omega, rfl, ?_, ?_, ?_, HPD, HKD⟩, by simp [intOf]; omega⟩
            · unfold Hid; rw [HST2.out]; exact HG2.out
            · unfold Hid; rw [List.length_set, HCU.out]
            · intro y hy
              rcases List.mem_or_eq_of_mem_set hy with hy | rfl
              · exact HBC.out y hy
              · exact hz32
        · obtain rfl : i = m := by omega
          have hlt2 : decide ((i : Int) < (i : Int)) = false := by rw [decide_eq_false_iff_not]; omega
          have hcT : cur = T := by rw [← HG.out, Nat.sub_self]; rfl
          subst hcT
          have HE := Lib.hid (HEND.out wr cur HO.out HTL.out)
          go_wp2_with (go_at_call 106; go_must (refine HE.out.mono ?_); rintro e w5 ⟨rfl, rfl⟩)
          go_ret2
          exact HFIN.out _ cur HTC.out HTL.out HO.out HK.out
end Go.Proofs.YticnefkdkkjgcaaGreatDoor

/- ieee.Int. -/
namespace Go.Proofs.YticnefkdkkjgcaaGreatDoor
open Go.RowKit

theorem ret_it {fn : Func} {p u : Tmp} {R : Ending → World → Prop} {a : Act} {w : World} {b : Nat} {neg : Bool} {A : Option Addr} {n c : Nat} {v : Value} (h : fn.results = #[.cell p 36, .tmp u]) (hp : a.tmps.getD p undef = .pointer (some ⟨b, 0, none⟩)) (hv : a.tmps.getD u undef = v) (hd : a.defers = [])
    (h0 : w.cell? ⟨b, 0, none⟩ = some (.bool neg)) (h1 : w.cell? ⟨b, 1, none⟩ = some (.slice A n c)) (hR : R (.returned (.tuple #[intV neg A n c, v])) w) : bodyPost Tryz.prog fn R .ret a w := by
  refine bodyPost_ret ((results_cell_tmp h _ _ _).trans ?_) hd hR
  have hl := load_int h0 h1
  rw [hp, hv]
  simp [asAddr, hl]
/-- what ieee.Int answers -/
def IntPost (w : World) (x : Option (Bool × Nat)) (e : Ending) (w' : World) : Prop := Keep nob w w' ∧ match x with
  | none => e = .returned (.tuple #[intV false none 0 0, .bool false])
  | some (g, v) => ∃ A', e = .returned (.tuple #[intV g A' (numL v).length (numL v).length, .bool true]) ∧ Sl EU w' A' (numL v).length (numL v) ∧ Lies (fun k => w.heap.size ≤ k) A' (numL v)
theorem numL_cut (v : Nat) : cutL (numL v) = numL v ∧ cutN (numL v) (numL v).length = (numL v).length := by
  have h1 : cutL (numL v) = numL v := by rw [cutL_num (numL_bd v), valL_numL]
  refine ⟨h1, ?_⟩
  rw [← cutL_len, h1]
theorem two32_num {x : Nat} (h : x < 18446744073709551616) : cutL (two32 x) = numL x ∧ cutN (two32 x) 2 = (numL x).length := by
  have hb : Bd (two32 x) := Bd.cons (by omega) (Bd.cons (by omega) Bd.nil)
  have hv : valL (two32 x) = x := by simp only [two32, valL]; omega
  have h1 : cutL (two32 x) = numL x := by rw [cutL_num hb, hv]
  refine ⟨h1, ?_⟩
  rw [← h1, cutL_len]; rfl
theorem parts_bd {F X x : Nat} {L : Int} (hF : F ≤ 52) (hL : -1074 ≤ L) (hX : 2 ^ X ≤ 2048) (hL0 : L ≤ 0) (hE : L + ((2 ^ X : Nat) : Int) ≤ 1000) {neg : Bool} {m : Nat} {e : Int} (h : partsN F L X x = some (neg, m, e)) : m < 9007199254740992 ∧ -1074 ≤ e ∧ e ≤ 1100 := by
  unfold partsN at h
  simp only at h
  split at h
  · cases h
  · rename_i h1
    split at h
    · simp only [Option.some.injEq, Prod.mk.injEq] at h
      omega
    · rename_i h2
      simp only [Option.some.injEq, Prod.mk.injEq] at h
      obtain ⟨-, rfl, rfl⟩ := h
      have hp : 0 < 2 ^ F := Nat.two_pow_pos F
      have hF2 : 2 ^ F ≤ 4503599627370496 := Nat.pow_le_pow_right (show 0 < 2 by decide) hF
      obtain ⟨size, hs⟩ : ∃ size, x % 2 ^ (F + X) = size := ⟨_, rfl⟩
      have hlt : size < 2 ^ (F + X) := by rw [← hs]; exact Nat.mod_lt _ (Nat.two_pow_pos _)
      rw [hs] at h1 h2 ⊢
      have hk : size / 2 ^ F < 2 ^ X := by
        rw [Nat.div_lt_iff_lt_mul hp, Nat.mul_comm, ← Nat.pow_add]
        exact hlt
      have hr : size % 2 ^ F < 2 ^ F := Nat.mod_lt _ hp
      have hm : (if 0 < size / 2 ^ F then size % 2 ^ F + 2 ^ F else size) < 9007199254740992 := by
        split
        · omega
        · rename_i h3
          have : size < 2 ^ F := by
            rcases Nat.lt_or_ge size (2 ^ F) with h4 | h4
            · exact h4
            · exact absurd (Nat.div_pos h4 hp) h3
          omega
      obtain ⟨m, hmm⟩ : ∃ m, (if 0 < size / 2 ^ F then size % 2 ^ F + 2 ^ F else size) = m := ⟨_, rfl⟩
      rw [hmm] at hm ⊢
      have hz : Lib.ctz 64 m ≤ 64 := by
        by_cases h0 : m = 0
        · subst h0; exact Nat.le_refl _
        · exact Nat.le_of_lt (Lib.lowest_bit 64 m h0 (by omega)).2
      refine ⟨Nat.lt_of_le_of_lt (Nat.div_le_self _ _) hm, ?_, ?_⟩
      · split <;> omega
      · split <;> omega
set_option maxRecDepth 100000 in
theorem int64_ok (x B : Nat) (hx : x < 18446744073709551616) (sa : Nat → Addr) (w : World) (g : GL B sa w) : Calls Tryz.prog 72 #[.int .u64 (x : Int)] w (IntPost w (intN 52 (-1074) 11 x)) := by
  obtain ⟨w0, b4, HW0, HB4, HK0, HT0, HL0⟩ := start2 w
  have HP := Lib.hid (parts64_ok x B hx sa w0 (g.keep HK0.out (fun _ h => h.elim)))
  have hbd := @parts_bd 52 11 x (-1074) (by decide) (by decide) (by decide) (by decide) (by decide)
  obtain ⟨Y, HY⟩ : ∃ Y, Hid (intN 52 (-1074) 11 x = Y) := ⟨_, Lib.hid rfl⟩
  rw [HY.out]
  unfold intN at HY
  clear g
  cases hp : partsN 52 (-1074) 11 x with
  | none =>
    rw [hp] at HP HY
    simp only [PartsE] at HP HY
    go_enter Tryz.func72, Tryz.ntmps72
    go_upto_region 1 with (fail)
    rw [HW0.out, HB4.out]
    go_wp2_with (go_at_call 96; go_must (refine HP.out.mono ?_); rintro e w1 ⟨rfl, hk1⟩; have HK1 := Lib.hid hk1; clear hk1; obtain ⟨v0, v1, ⟨d0, d1⟩, f0, f1⟩ := two (HT0.out.keep' HK1.out))
    obtain ⟨w2, e2, p0, p1, k2⟩ := put2 (HT0.out.keep' HK1.out) (.bool false) (.slice none 0 0)
    rw [e2.out]
    have hL := HL0.out
    refine ret_it rfl rfl rfl rfl p0 p1 ⟨(HK0.out.then_ HK1.out).trans k2 (fun k h1 h2 => by omega), ?_⟩
    rw [← HY.out]
    exact rfl
  | some y =>
    obtain ⟨neg, m, e⟩ := y
    rw [hp] at HP HY
    simp only [PartsE] at HP HY
    obtain ⟨hm, he1, he2⟩ := hbd hp
    by_cases he : e < 0
    · rw [if_pos he] at HY
      have hed : decide (e < 0) = true := by rw [decide_eq_true_iff]; exact he
      go_enter Tryz.func72, Tryz.ntmps72
      go_upto_region 1 with (fail)
      rw [HW0.out, HB4.out]
      go_wp2_with (go_at_call 96; go_must (refine HP.out.mono ?_); rintro e w1 ⟨rfl, hk1⟩; have HK1 := Lib.hid hk1; clear hk1; obtain ⟨v0, v1, ⟨d0, d1⟩, f0, f1⟩ := two (HT0.out.keep' HK1.out))
      obtain ⟨w2, e2, p0, p1, k2⟩ := put2 (HT0.out.keep' HK1.out) (.bool false) (.slice none 0 0)
      rw [e2.out]
      have hL := HL0.out
      refine ret_it rfl rfl rfl rfl p0 p1 ⟨(HK0.out.then_ HK1.out).trans k2 (fun k h1 h2 => by omega), ?_⟩
      rw [← HY.out]
      exact rfl
    · rw [if_neg he] at HY
      obtain ⟨n, rfl⟩ := Int.eq_ofNat_of_zero_le (Int.not_lt.1 he)
      have hed : decide ((n : Int) < 0) = false := by rw [decide_eq_false_iff_not]; exact he
      rw [Int.toNat_natCast] at HY
      obtain ⟨t1, t2⟩ := two32_num (x := m) (by omega)
      have HF := Lib.hid (fun wv : World => nFrom_ok m (by omega) wv)
      rw [t1, t2] at HF
      have hbm : bitsN m ≤ 64 := bitsN_le (by omega)
      have hlm : (numL m).length ≤ 2 := numL_len_le (f := 2) (by omega)
      have HS := Lib.hid (fun (A : Option Addr) (wv : World) (h : Sl EU wv A (numL m).length (numL m)) => nShl_ok A (numL m).length (numL m).length n (numL m) wv rfl h (numL_bd m) (by omega) (by rw [valL_numL]; omega))
      rw [valL_numL] at HS
      obtain ⟨v, HV⟩ : ∃ v, Hid (m * 2 ^ n = v) := ⟨_, Lib.hid rfl⟩
      rw [HV.out] at HS HY
      have hvl : v < 4294967296 ^ 200 := by
        rw [← HV.out]
        calc m * 2 ^ n ≤ 9007199254740992 * 2 ^ n := Nat.mul_le_mul_right _ (Nat.le_of_lt hm)
          _ ≤ 9007199254740992 * 2 ^ 3000 := Nat.mul_le_mul_left _ (Nat.pow_le_pow_right (by decide) (by omega))
          _ < 4294967296 ^ 200 := by decide +kernel
      have hln : (numL v).length ≤ 200 := numL_len_le hvl
      obtain ⟨c1, c2⟩ := numL_cut v
      have HN := Lib.hid (fun (A : Option Addr) (wv : World) (h : Sl EU wv A (numL v).length (numL v)) => wNorm_ok neg A (numL v).length (numL v).length (numL v) wv rfl h (by omega))
      rw [c1, c2] at HN
      have hg : (neg && decide (0 < m)) = negN neg (numL v).length := by
        unfold negN
        have h1 : 0 < (numL v).length ↔ 0 < m := by
          rw [numL_pos_iff, ← HV.out]
          have hp := Nat.two_pow_pos n
          constructor
          · intro h
            rcases Nat.eq_zero_or_pos m with h0 | h0
            · subst h0; simp at h
            · exact h0
          · intro h; exact Nat.mul_pos h hp
        rw [decide_eq_decide.2 h1]
      rw [hg] at HY
      obtain ⟨gg, HGG⟩ : ∃ gg, Hid (negN neg (numL v).length = gg) := ⟨_, Lib.hid rfl⟩
      rw [HGG.out] at HY HN
      have HY2 : Hid (Y = some (gg, v)) := Lib.hid HY.out.symm
      obtain ⟨N1, HN1⟩ : ∃ N1, Hid (numL m = N1) := ⟨_, Lib.hid rfl⟩
      obtain ⟨N2, HN2⟩ : ∃ N2, Hid (numL v = N2) := ⟨_, Lib.hid rfl⟩
      rw [HN1.out] at HF HS
      rw [HN2.out] at HS HN
      obtain ⟨L1, HL1⟩ : ∃ L1, Hid (N1.length = L1) := ⟨_, Lib.hid rfl⟩
      obtain ⟨L2, HL2⟩ : ∃ L2, Hid (N2.length = L2) := ⟨_, Lib.hid rfl⟩
      rw [HL1.out] at HF HS
      rw [HL2.out] at HS HN
      unfold intV at HN
      clear t1 t2 c1 c2 hg hvl hln hlm hbm hbd hp he hm he1 he2
      go_enter Tryz.func72, Tryz.ntmps72
      go_upto_region 1 with (fail)
      rw [HW0.out, HB4.out]
      go_wp2_with (first | (go_at_call 96; go_must (refine HP.out.mono ?_); rintro e w1 ⟨rfl, hk1⟩; have HK1 := Lib.hid hk1; clear hk1; obtain ⟨v0, v1, ⟨d0, d1⟩, f0, f1⟩ := two (HT0.out.keep' HK1.out)) | (go_at_call 98; go_must (refine (HF.out _).mono ?_); rintro e w2 ⟨hk2, A1, rfl, hs2, hl2⟩; have HK2 := Lib.hid hk2; have HS2 := Lib.hid hs2; clear hk2 hs2 hl2) | (go_at_call 97; go_must (refine (HS.out _ _ HS2.out).mono ?_); rintro e w3 ⟨hk3, A2, rfl, hs3, hl3⟩; have HK3 := Lib.hid hk3; have HS3 := Lib.hid hs3; clear hk3 hs3 hl3) | (go_at_call 92; go_must (refine (HN.out _ _ HS3.out).mono ?_); rintro e w5 ⟨hk5, A3, rfl, hs5, hl5⟩; have HK5 := Lib.hid hk5; have HS5 := Lib.hid hs5; have HL5 := Lib.hid hl5; clear hk5 hs5 hl5; obtain ⟨v0, v1, ⟨d0, d1⟩, f0, f1⟩ := two ((((HT0.out.keep' HK1.out).keep' HK2.out).keep' HK3.out).keep' HK5.out)))
      obtain ⟨w6, e6, p0, p1, k6⟩ := put2 ((((HT0.out.keep' HK1.out).keep' HK2.out).keep' HK3.out).keep' HK5.out) (.bool gg) (.slice A3 L2 L2)
      rw [e6.out]
      have hL := HL0.out
      have hz1 := HK1.out.size
      have hz2 := HK2.out.size
      have hz3 := HK3.out.size
      refine ret_it rfl rfl rfl rfl p0 p1 ⟨((((HK0.out.then_ HK1.out).then_ HK2.out).then_ HK3.out).then_ HK5.out).trans k6 (fun k h1 h2 => by omega), ?_⟩
      rw [HY2.out]
      show ∃ A', _ ∧ _ ∧ _
      rw [HN2.out, HL2.out]
      exact ⟨A3, rfl, HS5.out.keepD k6 HL5.out (fun k hk e => by omega), HL5.out.mono HS5.out (fun k _ hk => by omega)⟩
end Go.Proofs.YticnefkdkkjgcaaGreatDoor

/- ieee.Round at what is exact in 64 bits. -/
namespace Go.Proofs.YticnefkdkkjgcaaGreatDoor
open Go.RowKit

set_option maxRecDepth 100000 in
set_option maxHeartbeats 1000000 in
theorem round64_ok (neg : Bool) (A : Option Addr) (m B : Nat) (e : Int) (hm : m < 9007199254740992) (he1 : -1074 ≤ e) (he2 : e ≤ 1100) (sa : Nat → Addr) (w : World) (g : GL B sa w) (h : Sl EU w A (numL m).length (numL m)) :
    Calls Tryz.prog 104 #[.bool neg, .slice A (numL m).length (numL m).length, .int .i64 e, .bool false] w fun e' w' => e' = .returned (.int .u64 ((exact64 neg m e : Nat) : Int)) ∧ Keep nob w w' := by
  have hof := of64_ok B sa w g
  unfold shV at hof
  have HSG := Lib.hid (fun (x : Nat) (hx : x < 9223372036854775808) (wv : World) (hk : Keep nob w wv) => isigned64_ok neg x B hx sa wv (g.keep hk (fun _ h => h.elim)))
  have HINF := Lib.hid sinf64_ok
  have hlm : (numL m).length ≤ 2 := numL_len_le (f := 2) (by omega)
  have HLN := Lib.hid (fun (wv : World) (hk : Keep nob w wv) => nLen_ok A (numL m).length (numL m).length (numL m) wv rfl (h.keep hk (fun ⟨_, _, h⟩ => h)) (numL_bd m) (by omega))
  have HUI := Lib.hid (fun (wv : World) (hk : Keep nob w wv) => nUint_ok A (numL m).length (numL m).length (numL m) wv rfl (h.keep hk (fun ⟨_, _, h⟩ => h)) (numL_bd m) (by omega))
  rw [valL_numL] at HLN HUI
  rw [(numL_cut m).2] at HUI
  have hUE : UintE m (numL m).length = .returned (.tuple #[.int .u64 (m : Int), .bool true]) := if_pos hlm
  rw [hUE] at HUI
  obtain ⟨L, HL⟩ : ∃ L, Hid ((numL m).length = L) := ⟨_, Lib.hid rfl⟩
  rw [HL.out] at HLN HUI ⊢
  obtain ⟨n, HN⟩ : ∃ n, Hid (bitsN m = n) := ⟨_, Lib.hid rfl⟩
  rw [HN.out] at HLN
  have hn53 : n ≤ 53 := by rw [← HN.out]; exact bitsN_le (by omega)
  obtain ⟨R, HR⟩ : ∃ R, Hid (exact64 neg m e = R) := ⟨_, Lib.hid rfl⟩
  rw [HR.out]
  unfold exact64 at HR
  rw [bitLen_bits 64 m (by omega) (by omega), HN.out] at HR
  clear hUE hlm g h
  by_cases hm0 : m = 0
  · subst hm0
    rw [if_pos rfl] at HR
    have hn0 : n = 0 := by rw [← HN.out]; rfl
    subst hn0
    have HSG0 := Lib.hid (HSG.out 0 (by decide))
    rw [HR.out] at HSG0
    simp only [Int.natCast_zero] at HLN HSG0
    go_enter Tryz.func104, Tryz.ntmps104
    go_wp2_with (first | (go_at_call 99; go_must (refine hof.mono ?_); rintro e w1 ⟨rfl, hk1⟩; have HK1 := Lib.hid (hk1.alloc (.cells #[.int .i64 52, .int .i64 (-1074), .int .i64 11] 179)); clear hk1) | (go_at_call 128; go_must (refine (HLN.out _ HK1.out).mono ?_); rintro e w2 ⟨rfl, rfl⟩) | (go_at_call 102; go_must (refine (HSG0.out _ HK1.out).mono ?_); rintro e w3 ⟨rfl, hk3⟩))
    go_ret
    exact ⟨rfl, HK1.out.then_ hk3⟩
  rw [if_neg hm0] at HR
  have hn0 : ((n : Int) == 0) = false := by
    rw [beq_eq_false_iff_ne]
    intro h
    have h1 := bitsN_lt m
    rw [HN.out, show n = 0 by omega] at h1
    omega
  have d1 : decide (e > 2000) = false := by rw [decide_eq_false_iff_not]; omega
  have i1 : IntKind.i64.wrap (-3000 - (n : Int)) = -3000 - (n : Int) := by rw [IntWalk.i64_left, IntWalk.wrap64_in _ ⟨by omega, by omega⟩]
  have d2 : decide (e < -3000 - (n : Int)) = false := by rw [decide_eq_false_iff_not]; omega
  have i2 : IntKind.i64.wrap ((n : Int) - 52) = (n : Int) - 52 := by rw [IntWalk.i64_left, IntWalk.wrap64_in _ ⟨by omega, by omega⟩]
  have i3 : IntKind.i64.wrap ((n : Int) - 52 - 1) = (n : Int) - 53 := by rw [IntWalk.i64_left, IntWalk.wrap64_in _ ⟨by omega, by omega⟩]; omega
  have i3' : (n : Int) - 52 - 1 = (n : Int) - 53 := by omega
  have i4 : IntKind.i64.wrap ((n : Int) - 53 + e) = (n : Int) - 53 + e := by rw [IntWalk.i64_left, IntWalk.wrap64_in _ ⟨by omega, by omega⟩]
  obtain ⟨last, HLA⟩ : ∃ last : Int, Hid (max ((n : Int) - 53 + e) (-1074) = last) := ⟨_, Lib.hid rfl⟩
  rw [HLA.out] at HR
  have hl1 : -1074 ≤ last ∧ last ≤ 1100 ∧ last ≤ e := by rw [← HLA.out]; omega
  have hmx : (if (n : Int) - 53 + e < -1074 then (-1074 : Int) else (n : Int) - 53 + e) = last := by rw [← HLA.out]; split <;> omega
  obtain ⟨dl, HDL⟩ : ∃ dl : Nat, Hid ((last + 1074).toNat = dl) := ⟨_, Lib.hid rfl⟩
  have hdl : last + 1074 = (dl : Int) := by rw [← HDL.out]; omega
  have hdl2 : last - (-1074) = (dl : Int) := by omega
  have i5 : IntKind.i64.wrap (dl : Int) = (dl : Int) := by rw [IntWalk.i64_left, IntWalk.wrap64_in _ ⟨by omega, by omega⟩]
  go_enter Tryz.func104, Tryz.ntmps104
  go_upto_region 13 with (first | (go_at_call 99; go_must (refine hof.mono ?_); rintro e w1 ⟨rfl, hk1⟩; have HK1 := Lib.hid (hk1.alloc (.cells #[.int .i64 52, .int .i64 (-1074), .int .i64 11] 179)); have c0 := (sh_new w1 (.int .i64 52) (.int .i64 (-1074)) (.int .i64 11) 179).1; have c1 := (sh_new w1 (.int .i64 52) (.int .i64 (-1074)) (.int .i64 11) 179).2.1; have c2 := (sh_new w1 (.int .i64 52) (.int .i64 (-1074)) (.int .i64 11) 179).2.2; clear hk1) | (go_at_call 128; go_must (refine (HLN.out _ HK1.out).mono ?_); rintro e w2 ⟨rfl, rfl⟩))
  go_quiet (fail)
  obtain ⟨w4, HW4⟩ : ∃ w4, Hid ((w1.alloc (.cells #[.int .i64 52, .int .i64 (-1074), .int .i64 11] 179)).drewN nq = w4) := ⟨_, Lib.hid rfl⟩
  have hkd : Keep nob (w1.alloc (.cells #[.int .i64 52, .int .i64 (-1074), .int .i64 11] 179)) w4 := by rw [← HW4.out]; exact (Keep.refl _ _).drewN _
  have c0 := hkd.cell c0 (fun h => h)
  have c1 := hkd.cell c1 (fun h => h)
  have c2 := hkd.cell c2 (fun h => h)
  have HK4 := Lib.hid (HK1.out.then_ hkd)
  obtain ⟨bs, HBS⟩ : ∃ bs, Hid (w1.heap.size = bs) := ⟨_, Lib.hid rfl⟩
  rw [HBS.out] at c0 c1 c2
  rw [HW4.out, HBS.out]
  clear hkd i1 i2 i3 i3' i4 hmx d1 d2 hn0
  rw [hdl] at HR
  by_cases hinf : 2046 ≤ dl
  · have hd : decide ((2046 : Int) ≤ (dl : Int)) = true := by rw [decide_eq_true_iff]; omega
    rw [if_pos (by omega)] at HR
    have HSI := Lib.hid (HSG.out 9218868437227405312 (by decide))
    rw [HR.out] at HSI
    go_wp2_with (first | (go_at_call 103; go_must (refine (HINF.out _).mono ?_); rintro e w5 ⟨rfl, hk5⟩; have HK5 := Lib.hid (HK4.out.then_ hk5); clear hk5) | (go_at_call 102; go_must (refine (HSI.out _ HK5.out).mono ?_); rintro e w6 ⟨rfl, hk6⟩))
    go_ret
    exact ⟨rfl, HK5.out.then_ hk6⟩
  · have hd : decide ((2046 : Int) ≤ (dl : Int)) = false := by rw [decide_eq_false_iff_not]; omega
    rw [if_neg (by omega)] at HR
    have hle : decide (last ≤ e) = true := by rw [decide_eq_true_iff]; omega
    obtain ⟨s, HS⟩ : ∃ s, Hid ((e - last).toNat = s) := ⟨_, Lib.hid rfl⟩
    have i6' : e - last = (s : Int) := by rw [← HS.out]; omega
    have i6 : IntKind.i64.wrap (s : Int) = (s : Int) := by rw [IntWalk.i64_left, IntWalk.wrap64_in _ ⟨by omega, by omega⟩]
    rw [HS.out, Int.toNat_natCast] at HR
    obtain ⟨kp, HKP⟩ : ∃ kp, Hid (m * 2 ^ s = kp) := ⟨_, Lib.hid rfl⟩
    rw [HKP.out] at HR
    have hns : n + s ≤ 53 := by have := HLA.out; omega
    have hkp : kp < 9007199254740992 := by
      have h1 := bitsN_lt m
      rw [HN.out] at h1
      rw [← HKP.out]
      calc m * 2 ^ s < 2 ^ n * 2 ^ s := Nat.mul_lt_mul_of_pos_right h1 (Nat.two_pow_pos s)
        _ = 2 ^ (n + s) := (Nat.pow_add ..).symm
        _ ≤ 2 ^ 53 := Nat.pow_le_pow_right (by decide) hns
    have i7 : IntKind.u64.wrap ((m : Int) * 2 ^ s) = (kp : Int) := by
      rw [IntKind.wrap_u64, ← HKP.out, show (m : Int) * 2 ^ s = ((m * 2 ^ s : Nat) : Int) by rw [Int.natCast_mul, Int.natCast_pow]; rfl, HKP.out]
      omega
    obtain ⟨kq, HKQ⟩ : ∃ kq, Hid (kp / 4503599627370496 = kq) := ⟨_, Lib.hid rfl⟩
    rw [HKQ.out] at HR
    have i8 : (kp : Int) / 4503599627370496 = (kq : Int) := by rw [← HKQ.out]; omega
    have hnn : n + s ≤ 53 := hns
    clear hns he1 he2 hl1 hdl hdl2
    by_cases hk0 : kq = 0
    · subst hk0
      rw [if_pos rfl] at HR
      have HSK := Lib.hid (HSG.out kp (by omega))
      rw [HR.out] at HSK
      simp only [Int.natCast_zero] at i8
      go_wp2_with (first | (go_at_call 75; go_must (refine (HUI.out _ HK4.out).mono ?_); rintro e w5 ⟨rfl, rfl⟩) | (go_at_call 102; go_must (refine (HSK.out _ HK4.out).mono ?_); rintro e w6 ⟨rfl, hk6⟩))
      go_ret
      exact ⟨rfl, HK4.out.then_ hk6⟩
    · rw [if_neg hk0] at HR
      have hkd : ((kq : Int) == 0) = false := by rw [beq_eq_false_iff_ne]; omega
      obtain ⟨z, HZ⟩ : ∃ z, Hid (dl * 4503599627370496 + kp = z) := ⟨_, Lib.hid rfl⟩
      rw [HZ.out] at HR
      have hz : z < 9223372036854775808 := by rw [← HZ.out]; omega
      have HSZ := Lib.hid (HSG.out z hz)
      rw [HR.out] at HSZ
      have hdl : last + 1074 = (dl : Int) := by have := HDL.out; have := HLA.out; omega
      have hdl2 : last - (-1074) = (dl : Int) := by omega
      have j1 : IntKind.u64.wrap (dl : Int) = (dl : Int) := by rw [IntKind.wrap_u64]; omega
      have j2 : IntKind.u64.wrap ((dl : Int) * 4503599627370496) = (dl : Int) * 4503599627370496 := by rw [IntKind.wrap_u64]; omega
      have j3' : (dl : Int) * 4503599627370496 + (kp : Int) = (z : Int) := by rw [← HZ.out]; omega
      have j3 : IntKind.u64.wrap (z : Int) = (z : Int) := by rw [IntKind.wrap_u64]; omega
      go_upto_region 27 with (go_at_call 75; go_must (refine (HUI.out _ HK4.out).mono ?_); rintro e w5 ⟨rfl, rfl⟩)
      go_wp2_with (go_at_call 102; go_must (refine (HSZ.out _ HK4.out).mono ?_); rintro e w9 ⟨rfl, hk9⟩)
      go_ret
      exact ⟨rfl, HK4.out.then_ hk9⟩
end Go.Proofs.YticnefkdkkjgcaaGreatDoor

/- ieee.Class, To. -/
namespace Go.Proofs.YticnefkdkkjgcaaGreatDoor
open Go.RowKit

def classN (F X x : Nat) : Nat := if 2 ^ (F + X) - 2 ^ F < x % 2 ^ (F + X) then 5 else if x % 2 ^ (F + X) = 2 ^ (F + X) - 2 ^ F then 4 else if x % 2 ^ (F + X) = 0 then 1 else if x % 2 ^ (F + X) / 2 ^ F = 0 then 2 else 3
theorem signed64_lt {neg : Bool} {x : Nat} (h : x < 9223372036854775808) : signed64N neg x < 18446744073709551616 := by
  unfold signed64N
  split <;> omega
theorem exact64_lt {neg : Bool} {m : Nat} {e : Int} (hm : m < 9007199254740992) (_he : -1074 ≤ e) : exact64 neg m e < 18446744073709551616 := by
  unfold exact64
  split
  · exact signed64_lt (by decide)
  · obtain ⟨last, hla⟩ : ∃ last : Int, max ((Lib.bitLen m : Int) - 53 + e) (-1074) = last := ⟨_, rfl⟩
    simp only [hla]
    split
    · exact signed64_lt (by decide)
    · rename_i hinf
      have hb := bitLen_bits 64 m (by omega) (by omega)
      obtain ⟨n, hn⟩ : ∃ n, bitsN m = n := ⟨_, rfl⟩
      rw [hb, hn] at hla
      have hn53 : n ≤ 53 := by rw [← hn]; exact bitsN_le (by omega)
      obtain ⟨s, hs⟩ : ∃ s, (e - last).toNat = s := ⟨_, rfl⟩
      have hns : n + s ≤ 53 := by omega
      have h1 := bitsN_lt m
      rw [hn] at h1
      have hkp : m * 2 ^ s < 9007199254740992 := by
        calc m * 2 ^ s < 2 ^ n * 2 ^ s := Nat.mul_lt_mul_of_pos_right h1 (Nat.two_pow_pos s)
          _ = 2 ^ (n + s) := (Nat.pow_add ..).symm
          _ ≤ 2 ^ 53 := Nat.pow_le_pow_right (by decide) hns
      rw [hs]
      split
      · exact signed64_lt (by omega)
      · exact signed64_lt (by omega)
set_option maxRecDepth 100000 in
theorem class64_ok (x B : Nat) (hx : x < 18446744073709551616) (sa : Nat → Addr) (w : World) (g : GL B sa w) : Calls Tryz.prog 88 #[.int .u64 (x : Int)] w fun e w' => e = .returned (.int .i8 ((classN 52 11 x : Nat) : Int)) ∧ Keep nob w w' := by
  have hof := of64_ok B sa w g
  have HSPL := Lib.hid (fun (wv : World) (hk : Keep nob w wv) => split64_ok x B hx sa wv (g.keep hk (fun _ h => h.elim)))
  have HINF := Lib.hid sinf64_ok
  unfold shV at hof
  have hcl : classN 52 11 x = if 9218868437227405312 < x % 9223372036854775808 then 5 else if x % 9223372036854775808 = 9218868437227405312 then 4 else if x % 9223372036854775808 = 0 then 1 else if x % 9223372036854775808 / 4503599627370496 = 0 then 2 else 3 := rfl
  rw [hcl]
  obtain ⟨size, HSZ⟩ : ∃ size, Hid (x % 9223372036854775808 = size) := ⟨_, Lib.hid rfl⟩
  rw [HSZ.out] at HSPL ⊢
  clear g hx hcl
  by_cases h1 : 9218868437227405312 < size
  · rw [if_pos h1]
    have d1 : decide ((size : Int) > 9218868437227405312) = true := by rw [decide_eq_true_iff]; omega
    go_enter Tryz.func88, Tryz.ntmps88
    go_wp2_with (first | (go_at_call 99; go_must (refine hof.mono ?_); rintro e w1 ⟨rfl, hk1⟩; have HK1 := Lib.hid (hk1.alloc (.cells #[.int .i64 52, .int .i64 (-1074), .int .i64 11] 179)); clear hk1) | (go_at_call 101; go_must (refine (HSPL.out _ HK1.out).mono ?_); rintro e w2 ⟨rfl, hk2⟩; have c0 := hk2.cell (sh_new w1 (.int .i64 52) (.int .i64 (-1074)) (.int .i64 11) 179).1 (fun h => h); have c1 := hk2.cell (sh_new w1 (.int .i64 52) (.int .i64 (-1074)) (.int .i64 11) 179).2.1 (fun h => h); have c2 := hk2.cell (sh_new w1 (.int .i64 52) (.int .i64 (-1074)) (.int .i64 11) 179).2.2 (fun h => h); have HK2 := Lib.hid (HK1.out.then_ hk2); clear hk2) | (go_at_call 103; go_must (refine (HINF.out _).mono ?_); rintro e w3 ⟨rfl, hk3⟩; have c0 := hk3.cell c0 (fun h => h); have c1 := hk3.cell c1 (fun h => h); have c2 := hk3.cell c2 (fun h => h); have HK2 := Lib.hid (HK2.out.then_ hk3); clear hk3))
    go_ret
    exact ⟨rfl, HK2.out⟩
  rw [if_neg h1]
  have d1 : decide ((size : Int) > 9218868437227405312) = false := by rw [decide_eq_false_iff_not]; omega
  by_cases h2 : size = 9218868437227405312
  · rw [if_pos h2]
    have d2 : ((size : Int) == 9218868437227405312) = true := by rw [beq_iff_eq]; omega
    clear h2
    go_enter Tryz.func88, Tryz.ntmps88
    go_wp2_with (first | (go_at_call 99; go_must (refine hof.mono ?_); rintro e w1 ⟨rfl, hk1⟩; have HK1 := Lib.hid (hk1.alloc (.cells #[.int .i64 52, .int .i64 (-1074), .int .i64 11] 179)); clear hk1) | (go_at_call 101; go_must (refine (HSPL.out _ HK1.out).mono ?_); rintro e w2 ⟨rfl, hk2⟩; have c0 := hk2.cell (sh_new w1 (.int .i64 52) (.int .i64 (-1074)) (.int .i64 11) 179).1 (fun h => h); have c1 := hk2.cell (sh_new w1 (.int .i64 52) (.int .i64 (-1074)) (.int .i64 11) 179).2.1 (fun h => h); have c2 := hk2.cell (sh_new w1 (.int .i64 52) (.int .i64 (-1074)) (.int .i64 11) 179).2.2 (fun h => h); have HK2 := Lib.hid (HK1.out.then_ hk2); clear hk2) | (go_at_call 103; go_must (refine (HINF.out _).mono ?_); rintro e w3 ⟨rfl, hk3⟩; have c0 := hk3.cell c0 (fun h => h); have c1 := hk3.cell c1 (fun h => h); have c2 := hk3.cell c2 (fun h => h); have HK2 := Lib.hid (HK2.out.then_ hk3); clear hk3))
    go_ret
    exact ⟨rfl, HK2.out⟩
  rw [if_neg h2]
  have d2 : ((size : Int) == 9218868437227405312) = false := by rw [beq_eq_false_iff_ne]; omega
  by_cases h3 : size = 0
  · rw [if_pos h3]
    have d3 : ((size : Int) == 0) = true := by rw [beq_iff_eq]; omega
    clear h3
    go_enter Tryz.func88, Tryz.ntmps88
    go_wp2_with (first | (go_at_call 99; go_must (refine hof.mono ?_); rintro e w1 ⟨rfl, hk1⟩; have HK1 := Lib.hid (hk1.alloc (.cells #[.int .i64 52, .int .i64 (-1074), .int .i64 11] 179)); clear hk1) | (go_at_call 101; go_must (refine (HSPL.out _ HK1.out).mono ?_); rintro e w2 ⟨rfl, hk2⟩; have c0 := hk2.cell (sh_new w1 (.int .i64 52) (.int .i64 (-1074)) (.int .i64 11) 179).1 (fun h => h); have c1 := hk2.cell (sh_new w1 (.int .i64 52) (.int .i64 (-1074)) (.int .i64 11) 179).2.1 (fun h => h); have c2 := hk2.cell (sh_new w1 (.int .i64 52) (.int .i64 (-1074)) (.int .i64 11) 179).2.2 (fun h => h); have HK2 := Lib.hid (HK1.out.then_ hk2); clear hk2) | (go_at_call 103; go_must (refine (HINF.out _).mono ?_); rintro e w3 ⟨rfl, hk3⟩; have c0 := hk3.cell c0 (fun h => h); have c1 := hk3.cell c1 (fun h => h); have c2 := hk3.cell c2 (fun h => h); have HK2 := Lib.hid (HK2.out.then_ hk3); clear hk3))
    go_ret
    exact ⟨rfl, HK2.out⟩
  rw [if_neg h3]
  have d3 : ((size : Int) == 0) = false := by rw [beq_eq_false_iff_ne]; omega
  obtain ⟨kk, HKK⟩ : ∃ kk, Hid (size / 4503599627370496 = kk) := ⟨_, Lib.hid rfl⟩
  rw [HKK.out]
  have i1 : (size : Int) / 4503599627370496 = (kk : Int) := by rw [← HKK.out]; omega
  clear h1 h2 h3
  by_cases h4 : kk = 0
  · rw [if_pos h4]
    have d4 : ((kk : Int) == 0) = true := by rw [beq_iff_eq]; omega
    clear h4
    go_enter Tryz.func88, Tryz.ntmps88
    go_wp2_with (first | (go_at_call 99; go_must (refine hof.mono ?_); rintro e w1 ⟨rfl, hk1⟩; have HK1 := Lib.hid (hk1.alloc (.cells #[.int .i64 52, .int .i64 (-1074), .int .i64 11] 179)); clear hk1) | (go_at_call 101; go_must (refine (HSPL.out _ HK1.out).mono ?_); rintro e w2 ⟨rfl, hk2⟩; have c0 := hk2.cell (sh_new w1 (.int .i64 52) (.int .i64 (-1074)) (.int .i64 11) 179).1 (fun h => h); have c1 := hk2.cell (sh_new w1 (.int .i64 52) (.int .i64 (-1074)) (.int .i64 11) 179).2.1 (fun h => h); have c2 := hk2.cell (sh_new w1 (.int .i64 52) (.int .i64 (-1074)) (.int .i64 11) 179).2.2 (fun h => h); have HK2 := Lib.hid (HK1.out.then_ hk2); clear hk2) | (go_at_call 103; go_must (refine (HINF.out _).mono ?_); rintro e w3 ⟨rfl, hk3⟩; have c0 := hk3.cell c0 (fun h => h); have c1 := hk3.cell c1 (fun h => h); have c2 := hk3.cell c2 (fun h => h); have HK2 := Lib.hid (HK2.out.then_ hk3); clear hk3))
    go_ret
    exact ⟨rfl, HK2.out⟩
  · rw [if_neg h4]
    have d4 : ((kk : Int) == 0) = false := by rw [beq_eq_false_iff_ne]; omega
    clear h4
    go_enter Tryz.func88, Tryz.ntmps88
    go_wp2_with (first | (go_at_call 99; go_must (refine hof.mono ?_); rintro e w1 ⟨rfl, hk1⟩; have HK1 := Lib.hid (hk1.alloc (.cells #[.int .i64 52, .int .i64 (-1074), .int .i64 11] 179)); clear hk1) | (go_at_call 101; go_must (refine (HSPL.out _ HK1.out).mono ?_); rintro e w2 ⟨rfl, hk2⟩; have c0 := hk2.cell (sh_new w1 (.int .i64 52) (.int .i64 (-1074)) (.int .i64 11) 179).1 (fun h => h); have c1 := hk2.cell (sh_new w1 (.int .i64 52) (.int .i64 (-1074)) (.int .i64 11) 179).2.1 (fun h => h); have c2 := hk2.cell (sh_new w1 (.int .i64 52) (.int .i64 (-1074)) (.int .i64 11) 179).2.2 (fun h => h); have HK2 := Lib.hid (HK1.out.then_ hk2); clear hk2) | (go_at_call 103; go_must (refine (HINF.out _).mono ?_); rintro e w3 ⟨rfl, hk3⟩; have c0 := hk3.cell c0 (fun h => h); have c1 := hk3.cell c1 (fun h => h); have c2 := hk3.cell c2 (fun h => h); have HK2 := Lib.hid (HK2.out.then_ hk3); clear hk3))
    go_ret
    exact ⟨rfl, HK2.out⟩
set_option maxRecDepth 100000 in
theorem to6464_ok (x B : Nat) (hx : x < 18446744073709551616) (sa : Nat → Addr) (w : World) (g : GL B sa w) : Calls Tryz.prog 73 #[.int .u64 (x : Int)] w fun e w' => (∃ same, e = .returned (.tuple #[.int .u64 ((to64N 52 (-1074) 11 x : Nat) : Int), .bool same])) ∧ Keep nob w w' := by
  have HP := Lib.hid (parts64_ok x B hx sa w g)
  have HG := Lib.hid (fun (wv : World) (hk : Keep nob w wv) => g.keep hk (fun _ h => h.elim))
  obtain ⟨Y, HY⟩ : ∃ Y, Hid (to64N 52 (-1074) 11 x = Y) := ⟨_, Lib.hid rfl⟩
  rw [HY.out]
  unfold to64N at HY
  clear g
  cases hp : partsN 52 (-1074) 11 x with
  | none =>
    rw [hp] at HP HY
    simp only [PartsE] at HP HY
    have HCL := Lib.hid (fun (wv : World) (hk : Keep nob w wv) => class64_ok x B hx sa wv (HG.out wv hk))
    have HSPL := Lib.hid (fun (wv : World) (hk : Keep nob w wv) => split64_ok x B hx sa wv (HG.out wv hk))
    have HOF := Lib.hid (fun (wv : World) (hk : Keep nob w wv) => of64_ok B sa wv (HG.out wv hk))
    unfold shV at HOF
    have HINF := Lib.hid sinf64_ok
    have HNAN := Lib.hid snan64_ok
    have hge : 9218868437227405312 ≤ x % 9223372036854775808 := by
      unfold partsN at hp
      simp only at hp
      split at hp
      · rename_i h; exact h
      · split at hp <;> cases hp
    have hcl : classN 52 11 x = if 9218868437227405312 < x % 9223372036854775808 then 5 else if x % 9223372036854775808 = 9218868437227405312 then 4 else if x % 9223372036854775808 = 0 then 1 else if x % 9223372036854775808 / 4503599627370496 = 0 then 2 else 3 := rfl
    have HY2 : Hid ((if x % 9223372036854775808 = 9218868437227405312 then signed64N (decide (9223372036854775808 ≤ x)) 9218868437227405312 else 9221120237041090560) = Y) := HY
    clear HY hp
    obtain ⟨size, HSZ⟩ : ∃ size, Hid (x % 9223372036854775808 = size) := ⟨_, Lib.hid rfl⟩
    obtain ⟨neg, HNG⟩ : ∃ neg, Hid (decide (9223372036854775808 ≤ x) = neg) := ⟨_, Lib.hid rfl⟩
    rw [HSZ.out] at hge hcl HY2 HSPL
    rw [HNG.out] at HY2 HSPL
    by_cases hn : 9218868437227405312 < size
    · rw [if_pos hn] at hcl
      rw [if_neg (by omega)] at HY2
      rw [hcl] at HCL
      have hY := HY2.out
      subst hY
      clear hcl hge hn
      go_enter Tryz.func73, Tryz.ntmps73
      go_wp2_with (first | (go_at_call 96; go_must (refine HP.out.mono ?_); rintro e w1 ⟨rfl, hk1⟩; have HK1 := Lib.hid hk1; clear hk1) | (go_at_call 88; go_must (refine (HCL.out _ HK1.out).mono ?_); rintro e w2 ⟨rfl, hk2⟩; have HK2 := Lib.hid (HK1.out.then_ hk2); clear hk2) | (go_at_call 99; go_must (refine (HOF.out _ HK2.out).mono ?_); rintro e w3 ⟨rfl, hk3⟩; have HK3 := Lib.hid (HK2.out.then_ hk3); clear hk3) | (go_at_call 100; go_must (refine (HNAN.out _).mono ?_); rintro e w5 ⟨rfl, hk5⟩; have HK5 := Lib.hid (HK3.out.then_ hk5); clear hk5))
      go_ret2
      exact ⟨⟨_, rfl⟩, HK5.out⟩
    · obtain rfl : size = 9218868437227405312 := by omega
      rw [if_neg hn, if_pos rfl] at hcl
      rw [if_pos rfl] at HY2
      rw [hcl] at HCL
      have HSG := Lib.hid (fun (wv : World) (hk : Keep nob w wv) => isigned64_ok neg 9218868437227405312 B (by decide) sa wv (HG.out wv hk))
      rw [HY2.out] at HSG
      clear hcl hge hn
      go_enter Tryz.func73, Tryz.ntmps73
      go_wp2_with (first | (go_at_call 96; go_must (refine HP.out.mono ?_); rintro e w1 ⟨rfl, hk1⟩; have HK1 := Lib.hid hk1; clear hk1) | (go_at_call 88; go_must (refine (HCL.out _ HK1.out).mono ?_); rintro e w2 ⟨rfl, hk2⟩; have HK2 := Lib.hid (HK1.out.then_ hk2); clear hk2) | (go_at_call 101; go_must (refine (HSPL.out _ HK2.out).mono ?_); rintro e w3 ⟨rfl, hk3⟩; have HK3 := Lib.hid (HK2.out.then_ hk3); clear hk3) | (go_at_call 99; go_must (refine (HOF.out _ HK3.out).mono ?_); rintro e w4 ⟨rfl, hk4⟩; have HK4 := Lib.hid (HK3.out.then_ hk4); clear hk4) | (go_at_call 103; go_must (refine (HINF.out _).mono ?_); rintro e w5 ⟨rfl, hk5⟩; have HK5 := Lib.hid (HK4.out.then_ hk5); clear hk5) | (go_at_call 102; go_must (refine (HSG.out _ HK5.out).mono ?_); rintro e w6 ⟨rfl, hk6⟩; have HK6 := Lib.hid (HK5.out.then_ hk6); clear hk6))
      go_ret2
      exact ⟨⟨_, rfl⟩, HK6.out⟩
  | some y =>
    obtain ⟨neg, m, e⟩ := y
    have hbd := @parts_bd 52 11 x (-1074) (by decide) (by decide) (by decide) (by decide) (by decide) neg m e hp
    rw [hp] at HP HY
    simp only [PartsE] at HP HY
    obtain ⟨hm, he1, he2⟩ := hbd
    have hylt : Y < 18446744073709551616 := by rw [← HY.out]; exact exact64_lt hm he1
    have HQ := Lib.hid (fun (wv : World) (hk : Keep nob w wv) => parts64_ok Y B hylt sa wv (HG.out wv hk))
    obtain ⟨t1, t2⟩ := two32_num (x := m) (by omega)
    have HF := Lib.hid (fun wv : World => nFrom_ok m (by omega) wv)
    rw [t1, t2] at HF
    have HR := Lib.hid (fun (A : Option Addr) (wv : World) (hk : Keep nob w wv) (h : Sl EU wv A (numL m).length (numL m)) => round64_ok neg A m B e hm he1 he2 sa wv (HG.out wv hk) h)
    rw [HY.out] at HR
    obtain ⟨N1, HN1⟩ : ∃ N1, Hid (numL m = N1) := ⟨_, Lib.hid rfl⟩
    rw [HN1.out] at HF HR
    obtain ⟨L1, HL1⟩ : ∃ L1, Hid (N1.length = L1) := ⟨_, Lib.hid rfl⟩
    rw [HL1.out] at HF HR
    clear t1 t2 hm he1 he2 hylt hp
    cases hq : partsN 52 (-1074) 11 Y with
    | none =>
      rw [hq] at HQ
      simp only [PartsE] at HQ
      go_enter Tryz.func73, Tryz.ntmps73
      go_wp2_with (first | (go_at_call 96; refine (HQ.out _ HK3.out).mono ?_; rintro e w4 ⟨rfl, hk4⟩; have HK4 := Lib.hid (HK3.out.then_ hk4); clear hk4) | (go_at_call 96; go_must (refine HP.out.mono ?_); rintro e w1 ⟨rfl, hk1⟩; have HK1 := Lib.hid hk1; clear hk1) | (go_at_call 98; go_must (refine (HF.out _).mono ?_); rintro e w2 ⟨hk2, A1, rfl, hs2, hl2⟩; have HK2 := Lib.hid (HK1.out.then_ hk2); have HS2 := Lib.hid hs2; clear hk2 hs2 hl2) | (go_at_call 104; go_must (refine (HR.out _ _ HK2.out HS2.out).mono ?_); rintro e w3 ⟨rfl, hk3⟩; have HK3 := Lib.hid (HK2.out.then_ hk3); clear hk3))
      go_ret2
      exact ⟨⟨_, rfl⟩, HK4.out⟩
    | some z =>
      obtain ⟨neg2, m2, e2⟩ := z
      rw [hq] at HQ
      simp only [PartsE] at HQ
      clear hq
      by_cases hm2 : m2 = m
      · have d1 : ((m2 : Int) == (m : Int)) = true := by rw [beq_iff_eq, hm2]
        clear hm2
        go_enter Tryz.func73, Tryz.ntmps73
        go_wp2_with (first | (go_at_call 96; refine (HQ.out _ HK3.out).mono ?_; rintro e w4 ⟨rfl, hk4⟩; have HK4 := Lib.hid (HK3.out.then_ hk4); clear hk4) | (go_at_call 96; go_must (refine HP.out.mono ?_); rintro e w1 ⟨rfl, hk1⟩; have HK1 := Lib.hid hk1; clear hk1) | (go_at_call 98; go_must (refine (HF.out _).mono ?_); rintro e w2 ⟨hk2, A1, rfl, hs2, hl2⟩; have HK2 := Lib.hid (HK1.out.then_ hk2); have HS2 := Lib.hid hs2; clear hk2 hs2 hl2) | (go_at_call 104; go_must (refine (HR.out _ _ HK2.out HS2.out).mono ?_); rintro e w3 ⟨rfl, hk3⟩; have HK3 := Lib.hid (HK2.out.then_ hk3); clear hk3))
        go_ret2
        exact ⟨⟨_, rfl⟩, HK4.out⟩
      · have d1 : ((m2 : Int) == (m : Int)) = false := by rw [beq_eq_false_iff_ne]; omega
        clear hm2
        go_enter Tryz.func73, Tryz.ntmps73
        go_wp2_with (first | (go_at_call 96; refine (HQ.out _ HK3.out).mono ?_; rintro e w4 ⟨rfl, hk4⟩; have HK4 := Lib.hid (HK3.out.then_ hk4); clear hk4) | (go_at_call 96; go_must (refine HP.out.mono ?_); rintro e w1 ⟨rfl, hk1⟩; have HK1 := Lib.hid hk1; clear hk1) | (go_at_call 98; go_must (refine (HF.out _).mono ?_); rintro e w2 ⟨hk2, A1, rfl, hs2, hl2⟩; have HK2 := Lib.hid (HK1.out.then_ hk2); have HS2 := Lib.hid hs2; clear hk2 hs2 hl2) | (go_at_call 104; go_must (refine (HR.out _ _ HK2.out HS2.out).mono ?_); rintro e w3 ⟨rfl, hk3⟩; have HK3 := Lib.hid (HK2.out.then_ hk3); clear hk3))
        go_ret2
        exact ⟨⟨_, rfl⟩, HK4.out⟩
end Go.Proofs.YticnefkdkkjgcaaGreatDoor

/- number.Of; packread's families of floats. -/
namespace Go.Proofs.YticnefkdkkjgcaaGreatDoor
open Go.RowKit

set_option maxRecDepth 100000 in
theorem of64v_ok (x B : Nat) (hx : x < 18446744073709551616) (sa : Nat → Addr) (w : World) (g : GL B sa w) : Calls Tryz.prog 40 #[.int .u64 (x : Int)] w fun e w' => Keep nob w w' ∧ ∃ r, e = .returned (ER.val r) ∧ Tr w' (fun k => w.heap.size ≤ k) r (ofV 52 (-1074) 11 x) := by
  obtain ⟨w0, b4, HW0, HB4, HK0, HT0, HL0⟩ := start w
  have HI := int64_ok x B hx sa w0 (g.keep HK0.out (fun _ h => h.elim))
  have HG := Lib.hid (fun (wv : World) (hk : Keep nob w0 wv) => to6464_ok x B hx sa wv ((g.keep HK0.out (fun _ h => h.elim)).keep hk (fun _ h => h.elim)))
  obtain ⟨Y, HY⟩ : ∃ Y, Hid (ofV 52 (-1074) 11 x = Y) := ⟨_, Lib.hid rfl⟩
  rw [HY.out]
  unfold ofV at HY
  clear g
  obtain ⟨I, HID⟩ : ∃ I, Hid (intN 52 (-1074) 11 x = I) := ⟨_, Lib.hid rfl⟩
  rw [HID.out] at HI HY
  cases I with
  | some y =>
    obtain ⟨gg, v⟩ := y
    dsimp only at HY
    unfold IntPost intV at HI
    dsimp only at HI
    obtain ⟨N2, HN2⟩ : ∃ N2, Hid (numL v = N2) := ⟨_, Lib.hid rfl⟩
    rw [HN2.out] at HI HY
    obtain ⟨L2, HL2⟩ : ∃ L2, Hid (N2.length = L2) := ⟨_, Lib.hid rfl⟩
    rw [HL2.out] at HI
    have HI := Lib.hid HI
    go_enter Tryz.func40, Tryz.ntmps40
    go_upto_region 1 with (fail)
    rw [HW0.out, HB4.out]
    go_wp2_with (go_at_call 72; go_must (refine HI.out.mono ?_); rintro e w1 ⟨hk1, A3, rfl, hs1, hl1⟩; have HK1 := Lib.hid hk1; have HS1 := Lib.hid hs1; have HL1 := Lib.hid hl1; clear hk1 hs1 hl1; have hka : Keep nob w1 (w1.alloc (.cells #[.bool gg, .slice A3 L2 L2] 36)) := (Keep.refl _ _).alloc _; have HKA := Lib.hid hka; obtain ⟨v0, v1, v2, v3, v4, v5, v6, v7, ⟨d0, d1, d2, d3, d4, d5, d6, d7⟩, f0, f1, f2, f3, f4, f5, f6, f7⟩ := eight ((HT0.out.keep' HK1.out).keep' HKA.out))
    obtain ⟨w2, e2, r2, k2⟩ := put8 ((HT0.out.keep' HK1.out).keep' HKA.out) ⟨3, 0, gg, A3, L2, L2, 0, 0, ⟨#[]⟩, none, 0, 0⟩ (.int .i8 3) (.int .u64 0) (.bool gg) (.slice A3 L2 L2) (.int .u64 0) (.int .i8 0) (.string ⟨#[]⟩) (.slice none 0 0) rfl
    rw [e2.out]
    have hL := HL0.out
    have hz1 := HK1.out.size
    refine ret_v rfl rfl rfl r2 ⟨((HK0.out.then_ HK1.out).then_ HKA.out).trans k2 (fun k h1 h2 => by omega), _, rfl, ?_⟩
    rw [← HY.out]
    exact Tr.int ((HS1.out.keep HKA.out (fun ⟨_, _, h⟩ => h)).keepD k2 HL1.out (fun k hk e => by omega)) (HL1.out.mono HS1.out (fun k _ hk => by omega)) HL2.out
  | none =>
    dsimp only at HY
    unfold IntPost intV at HI
    dsimp only at HI
    have HI := Lib.hid HI
    obtain ⟨q, HQ⟩ : ∃ q, Hid (to64N 52 (-1074) 11 x = q) := ⟨_, Lib.hid rfl⟩
    rw [HQ.out] at HG HY
    go_enter Tryz.func40, Tryz.ntmps40
    go_upto_region 1 with (fail)
    rw [HW0.out, HB4.out]
    go_wp2_with (first | (go_at_call 72; go_must (refine HI.out.mono ?_); rintro e w1 ⟨hk1, rfl⟩; have HK1 := Lib.hid hk1; clear hk1; have hka : Keep nob w1 (w1.alloc (.cells #[.bool false, .slice none 0 0] 36)) := (Keep.refl _ _).alloc _; have HKA := Lib.hid (HK1.out.then_ hka); clear hka) | (go_at_call 73; go_must (refine (HG.out _ HKA.out).mono ?_); rintro e w3 ⟨⟨same, rfl⟩, hk3⟩; have HK3 := Lib.hid (HKA.out.then_ hk3); clear hk3; obtain ⟨v0, v1, v2, v3, v4, v5, v6, v7, ⟨d0, d1, d2, d3, d4, d5, d6, d7⟩, f0, f1, f2, f3, f4, f5, f6, f7⟩ := eight (HT0.out.keep' HK3.out)))
    obtain ⟨w2, e2, r2, k2⟩ := put8 (HT0.out.keep' HK3.out) ⟨4, 0, false, none, 0, 0, q, 0, ⟨#[]⟩, none, 0, 0⟩ (.int .i8 4) (.int .u64 0) (.bool false) (.slice none 0 0) (.int .u64 (q : Int)) (.int .i8 0) (.string ⟨#[]⟩) (.slice none 0 0) rfl
    rw [e2.out]
    have hL := HL0.out
    refine ret_v rfl rfl rfl r2 ⟨(HK0.out.then_ HK3.out).trans k2 (fun k h1 h2 => by omega), _, rfl, ?_⟩
    rw [← HY.out]
    exact Tr.flat _ _ _ _ _ _ _ _
end Go.Proofs.YticnefkdkkjgcaaGreatDoor

/- cmp.Compare, cmp.Or, ieee.Total. -/
namespace Go.Proofs.YticnefkdkkjgcaaGreatDoor
open Go.RowKit

set_option maxRecDepth 100000 in
theorem cmp64_ok (a b : Int) (w : World) : Calls Tryz.prog 119 #[.int .u64 (a : Int), .int .u64 (b : Int)] w fun e w' => e = .returned (.int .i64 (cmpI a b)) ∧ w' = w := by
  by_cases h1 : (a : Int) < (b : Int)
  · have e : cmpI a b = -1 := if_pos h1
    rw [e]
    have d1 : decide ((a : Int) < (b : Int)) = true := by rw [decide_eq_true_iff]; exact h1
    clear h1
    go_enter Tryz.func119, Tryz.ntmps119
    go_wp2
    go_ret
    exact ⟨rfl, rfl⟩
  · have d1 : decide ((a : Int) < (b : Int)) = false := by rw [decide_eq_false_iff_not]; exact h1
    by_cases h2 : (b : Int) < (a : Int)
    · have e : cmpI a b = 1 := by unfold cmpI; rw [if_neg h1, if_pos h2]
      rw [e]
      have d2 : decide ((a : Int) > (b : Int)) = true := by rw [decide_eq_true_iff]; exact h2
      clear h1 h2
      go_enter Tryz.func119, Tryz.ntmps119
      go_wp2
      go_ret
      exact ⟨rfl, rfl⟩
    · have e : cmpI a b = 0 := by unfold cmpI; rw [if_neg h1, if_neg h2]
      rw [e]
      have d2 : decide ((a : Int) > (b : Int)) = false := by rw [decide_eq_false_iff_not]; exact h2
      clear h1 h2
      go_enter Tryz.func119, Tryz.ntmps119
      go_wp2
      go_ret
      exact ⟨rfl, rfl⟩
set_option maxRecDepth 100000 in
theorem cmp32_ok (a b : Int) (w : World) : Calls Tryz.prog 159 #[.int .u32 (a : Int), .int .u32 (b : Int)] w fun e w' => e = .returned (.int .i64 (cmpI a b)) ∧ w' = w := by
  by_cases h1 : (a : Int) < (b : Int)
  · have e : cmpI a b = -1 := if_pos h1
    rw [e]
    have d1 : decide ((a : Int) < (b : Int)) = true := by rw [decide_eq_true_iff]; exact h1
    clear h1
    go_enter Tryz.func159, Tryz.ntmps159
    go_wp2
    go_ret
    exact ⟨rfl, rfl⟩
  · have d1 : decide ((a : Int) < (b : Int)) = false := by rw [decide_eq_false_iff_not]; exact h1
    by_cases h2 : (b : Int) < (a : Int)
    · have e : cmpI a b = 1 := by unfold cmpI; rw [if_neg h1, if_pos h2]
      rw [e]
      have d2 : decide ((a : Int) > (b : Int)) = true := by rw [decide_eq_true_iff]; exact h2
      clear h1 h2
      go_enter Tryz.func159, Tryz.ntmps159
      go_wp2
      go_ret
      exact ⟨rfl, rfl⟩
    · have e : cmpI a b = 0 := by unfold cmpI; rw [if_neg h1, if_neg h2]
      rw [e]
      have d2 : decide ((a : Int) > (b : Int)) = false := by rw [decide_eq_false_iff_not]; exact h2
      clear h1 h2
      go_enter Tryz.func159, Tryz.ntmps159
      go_wp2
      go_ret
      exact ⟨rfl, rfl⟩
set_option maxRecDepth 100000 in
theorem cmpI_ok (a b : Int) (w : World) : Calls Tryz.prog 158 #[.int .i64 (a : Int), .int .i64 (b : Int)] w fun e w' => e = .returned (.int .i64 (cmpI a b)) ∧ w' = w := by
  by_cases h1 : (a : Int) < (b : Int)
  · have e : cmpI a b = -1 := if_pos h1
    rw [e]
    have d1 : decide ((a : Int) < (b : Int)) = true := by rw [decide_eq_true_iff]; exact h1
    clear h1
    go_enter Tryz.func158, Tryz.ntmps158
    go_wp2
    go_ret
    exact ⟨rfl, rfl⟩
  · have d1 : decide ((a : Int) < (b : Int)) = false := by rw [decide_eq_false_iff_not]; exact h1
    by_cases h2 : (b : Int) < (a : Int)
    · have e : cmpI a b = 1 := by unfold cmpI; rw [if_neg h1, if_pos h2]
      rw [e]
      have d2 : decide ((a : Int) > (b : Int)) = true := by rw [decide_eq_true_iff]; exact h2
      clear h1 h2
      go_enter Tryz.func158, Tryz.ntmps158
      go_wp2
      go_ret
      exact ⟨rfl, rfl⟩
    · have e : cmpI a b = 0 := by unfold cmpI; rw [if_neg h1, if_neg h2]
      rw [e]
      have d2 : decide ((a : Int) > (b : Int)) = false := by rw [decide_eq_false_iff_not]; exact h2
      clear h1 h2
      go_enter Tryz.func158, Tryz.ntmps158
      go_wp2
      go_ret
      exact ⟨rfl, rfl⟩
set_option maxRecDepth 100000 in
theorem cmp8_ok (a b : Int) (w : World) : Calls Tryz.prog 120 #[.int .i8 (a : Int), .int .i8 (b : Int)] w fun e w' => e = .returned (.int .i64 (cmpI a b)) ∧ w' = w := by
  by_cases h1 : (a : Int) < (b : Int)
  · have e : cmpI a b = -1 := if_pos h1
    rw [e]
    have d1 : decide ((a : Int) < (b : Int)) = true := by rw [decide_eq_true_iff]; exact h1
    clear h1
    go_enter Tryz.func120, Tryz.ntmps120
    go_wp2
    go_ret
    exact ⟨rfl, rfl⟩
  · have d1 : decide ((a : Int) < (b : Int)) = false := by rw [decide_eq_false_iff_not]; exact h1
    by_cases h2 : (b : Int) < (a : Int)
    · have e : cmpI a b = 1 := by unfold cmpI; rw [if_neg h1, if_pos h2]
      rw [e]
      have d2 : decide ((a : Int) > (b : Int)) = true := by rw [decide_eq_true_iff]; exact h2
      clear h1 h2
      go_enter Tryz.func120, Tryz.ntmps120
      go_wp2
      go_ret
      exact ⟨rfl, rfl⟩
    · have e : cmpI a b = 0 := by unfold cmpI; rw [if_neg h1, if_neg h2]
      rw [e]
      have d2 : decide ((a : Int) > (b : Int)) = false := by rw [decide_eq_false_iff_not]; exact h2
      clear h1 h2
      go_enter Tryz.func120, Tryz.ntmps120
      go_wp2
      go_ret
      exact ⟨rfl, rfl⟩
set_option maxRecDepth 100000 in
theorem cmpKind_ok (a b : Int) (w : World) : Calls Tryz.prog 118 #[.int .i8 (a : Int), .int .i8 (b : Int)] w fun e w' => e = .returned (.int .i64 (cmpI a b)) ∧ w' = w := by
  by_cases h1 : (a : Int) < (b : Int)
  · have e : cmpI a b = -1 := if_pos h1
    rw [e]
    have d1 : decide ((a : Int) < (b : Int)) = true := by rw [decide_eq_true_iff]; exact h1
    clear h1
    go_enter Tryz.func118, Tryz.ntmps118
    go_wp2
    go_ret
    exact ⟨rfl, rfl⟩
  · have d1 : decide ((a : Int) < (b : Int)) = false := by rw [decide_eq_false_iff_not]; exact h1
    by_cases h2 : (b : Int) < (a : Int)
    · have e : cmpI a b = 1 := by unfold cmpI; rw [if_neg h1, if_pos h2]
      rw [e]
      have d2 : decide ((a : Int) > (b : Int)) = true := by rw [decide_eq_true_iff]; exact h2
      clear h1 h2
      go_enter Tryz.func118, Tryz.ntmps118
      go_wp2
      go_ret
      exact ⟨rfl, rfl⟩
    · have e : cmpI a b = 0 := by unfold cmpI; rw [if_neg h1, if_neg h2]
      rw [e]
      have d2 : decide ((a : Int) > (b : Int)) = false := by rw [decide_eq_false_iff_not]; exact h2
      clear h1 h2
      go_enter Tryz.func118, Tryz.ntmps118
      go_wp2
      go_ret
      exact ⟨rfl, rfl⟩
theorem lex_spec : ∀ (x y : List UInt8), lexN (x.map (·.toNat)) (y.map (·.toNat)) = if Op.bytesLess x y = true then -1 else if (x == y) = true then 0 else 1
  | [], [] => rfl
  | [], _ :: _ => rfl
  | _ :: _, [] => rfl
  | a :: x, b :: y => by
    have ih := lex_spec x y
    simp only [List.map_cons, lexN, Op.bytesLess]
    by_cases h : a = b
    · subst h
      have h2 : ¬ a < a := by simp
      simp only [if_true, ih, h2, decide_false, Bool.false_or, beq_self_eq_true, Bool.true_and, List.cons_beq_cons]
    · have hn : ¬ a.toNat = b.toNat := fun e => h (UInt8.toNat_inj.1 e)
      have hb : (a == b) = false := by simpa using h
      rw [if_neg hn]
      simp only [hb, Bool.false_and, Bool.or_false, List.cons_beq_cons, decide_eq_true_iff]
      unfold cmpI
      by_cases h3 : a < b
      · have : (a.toNat : Int) < (b.toNat : Int) := by have := UInt8.lt_iff_toNat_lt.1 h3; omega
        rw [if_pos this, if_pos h3]
      · have h4 : ¬ (a.toNat : Int) < (b.toNat : Int) := fun e => h3 (UInt8.lt_iff_toNat_lt.2 (by omega))
        rw [if_neg h4, if_neg h3, if_pos (by omega)]
        simp
set_option maxRecDepth 100000 in
theorem cmpS_ok (a b : ByteArray) (w : World) : Calls Tryz.prog 123 #[.string a, .string b] w fun e w' => e = .returned (.int .i64 (lexN (bl a) (bl b))) ∧ w' = w := by
  have hs := lex_spec a.data.toList b.data.toList
  rw [show a.data.toList.map (·.toNat) = bl a from rfl, show b.data.toList.map (·.toNat) = bl b from rfl, ← ByteArray.toList_eq, ← ByteArray.toList_eq] at hs
  rw [hs]
  clear hs
  have ha : (a.toList == a.toList) = true := by simp
  have hb : (b.toList == b.toList) = true := by simp
  by_cases h1 : Op.bytesLess a.toList b.toList = true
  · rw [if_pos h1]
    go_enter Tryz.func123, Tryz.ntmps123
    go_wp2
    go_ret
    exact ⟨rfl, rfl⟩
  · have h1f : Op.bytesLess a.toList b.toList = false := by simpa using h1
    rw [if_neg h1]
    clear h1
    by_cases h2 : (a.toList == b.toList) = true
    · rw [if_pos h2]
      go_enter Tryz.func123, Tryz.ntmps123
      go_wp2
      go_ret
      exact ⟨rfl, rfl⟩
    · have h2f : (a.toList == b.toList) = false := by simpa using h2
      rw [if_neg h2]
      clear h2
      go_enter Tryz.func123, Tryz.ntmps123
      go_wp2
      go_ret
      exact ⟨rfl, rfl⟩

/-- an int -/
def EZ : El Int where
  sz := 1
  pos := by decide
  cells := fun x => [.int .i64 x]
  len := fun _ => rfl
  one := fun x v h => by simp at h; subst h; rfl
  val := fun x => .int .i64 x
/-- the first that is not 0 -/
def firstZ : List Int → Int
  | [] => 0
  | x :: l => orI x (firstZ l)
set_option maxRecDepth 100000 in
theorem cmpOr_ok (A : Option Addr) (c L : Nat) (l : List Int) (w : World) (hL : l.length = L) (h : Sl EZ w A c l) :
    Calls Tryz.prog 117 #[.slice A L c] w fun e w' => e = .returned (.int .i64 (firstZ l)) ∧ w' = w := by
  have H := Lib.hid h
  have HL := Lib.hid hL
  have hle := h.le
  have hcc := h.cap
  rw [hL] at hle
  clear h hL
  go_enter Tryz.func117, Tryz.ntmps117
  go_wp2_with (fail)
  go_loopw [5, 8] (fun u5 u8 wr => ∃ i : Nat, i ≤ L ∧ u8 = .int .i64 (i : Int) ∧ Hid (firstZ (l.drop i) = firstZ l) ∧ Hid (wr = w)) (fun _ u8 _ => L - (intOf u8).toNat)
  case atStart => exact ⟨0, Nat.zero_le _, rfl, Lib.hid rfl, Lib.hid rfl⟩
  case round =>
    obtain ⟨i, hi, rfl, HF, HW⟩ := hrel
    have HW2 := HW.out
    subst HW2
    rcases Nat.lt_or_ge i L with hlt | hge
    · have hd : decide ((i : Int) < (L : Int)) = true := by rw [decide_eq_true_iff]; omega
      have hi0 : (0 : Int) ≤ (i : Int) := by omega
      have hi1 : (i : Int) < (L : Int) := by omega
      have hil : i < l.length := by rw [HL.out]; exact hlt
      obtain ⟨b1, o1, rfl, hx⟩ := H.out.elem (i := i) hil
      have hx1 := hx 0 _ rfl
      obtain ⟨x, HX⟩ : ∃ x, Hid (l[i] = x) := ⟨_, Lib.hid rfl⟩
      simp only [EZ, Nat.add_zero, Nat.mul_one] at hx1
      rw [HX.out] at hx1
      have HS : Hid (firstZ (l.drop i) = orI x (firstZ (l.drop (i + 1)))) := by
        unfold Hid
        rw [List.drop_eq_getElem_cons hil, firstZ, HX.out]
      have i1 : IntKind.i64.wrap ((i : Int) + 1) = (i : Int) + 1 := by rw [IntWalk.i64_left, IntWalk.wrap64_in _ ⟨by omega, by omega⟩]
      clear hx
      by_cases hz : x = 0
      · subst hz
        go_wp2
        refine ⟨⟨i + 1, by omega, rfl, ?_, Lib.hid trivial⟩, by simp [intOf]; omega⟩
        unfold Hid
        rw [← HF.out, HS.out]; rfl
      · have hzd : (x == 0) = false := by rw [beq_eq_false_iff_ne]; exact hz
        have HR : Hid (firstZ l = x) := by unfold Hid; rw [← HF.out, HS.out, orI_ne _ hz]
        clear hz
        go_wp2
        go_ret
        rw [HR.out]
        exact ⟨rfl, rfl⟩
    · obtain rfl : i = L := by omega
      have hd : decide ((i : Int) < (i : Int)) = false := by rw [decide_eq_false_iff_not]; omega
      have HR : Hid (firstZ l = 0) := by unfold Hid; rw [← HF.out, List.drop_eq_nil_of_le (by rw [HL.out]; exact Nat.le_refl _)]; rfl
      go_wp2
      go_ret
      rw [HR.out]
      exact ⟨rfl, rfl⟩
set_option maxRecDepth 100000 in
theorem total64_ok (x y B : Nat) (hx : x < 18446744073709551616) (hy : y < 18446744073709551616) (sa : Nat → Addr) (w : World) (g : GL B sa w) :
    Calls Tryz.prog 122 #[.int .u64 (x : Int), .int .u64 (y : Int)] w fun e w' => e = .returned (.int .i64 (total64 x y)) ∧ Keep nob w w' := by
  have HX := Lib.hid (split64_ok x B hx sa w g)
  have HY := Lib.hid (fun (wv : World) (hk : Keep nob w wv) => split64_ok y B hy sa wv (g.keep hk (fun _ h => h.elim)))
  have HC := Lib.hid cmp64_ok
  unfold total64
  obtain ⟨a, HA⟩ : ∃ a, Hid (x % 9223372036854775808 = a) := ⟨_, Lib.hid rfl⟩
  obtain ⟨b, HB⟩ : ∃ b, Hid (y % 9223372036854775808 = b) := ⟨_, Lib.hid rfl⟩
  rw [HA.out] at HX
  rw [HB.out] at HY
  clear g
  by_cases h1 : 9223372036854775808 ≤ x
  · rw [if_pos h1]
    rw [decide_eq_true h1] at HX
    by_cases h2 : 9223372036854775808 ≤ y
    · rw [if_pos h2]
      rw [decide_eq_true h2] at HY
      clear h1 h2
      go_enter Tryz.func122, Tryz.ntmps122
      go_wp2_with (first | (go_at_call 101; refine (HY.out _ HK1.out).mono ?_; rintro e w2 ⟨rfl, hk2⟩; have HK2 := Lib.hid (HK1.out.then_ hk2); clear hk2) | (go_at_call 101; go_must (refine HX.out.mono ?_); rintro e w1 ⟨rfl, hk1⟩; have HK1 := Lib.hid hk1; clear hk1) | (go_at_call 119; go_must (refine (HC.out _ _ _).mono ?_); rintro e w3 ⟨rfl, rfl⟩))
      go_ret
      exact ⟨rfl, HK2.out⟩
    · rw [if_neg h2]
      rw [decide_eq_false h2] at HY
      clear h1 h2
      go_enter Tryz.func122, Tryz.ntmps122
      go_wp2_with (first | (go_at_call 101; refine (HY.out _ HK1.out).mono ?_; rintro e w2 ⟨rfl, hk2⟩; have HK2 := Lib.hid (HK1.out.then_ hk2); clear hk2) | (go_at_call 101; go_must (refine HX.out.mono ?_); rintro e w1 ⟨rfl, hk1⟩; have HK1 := Lib.hid hk1; clear hk1) | (go_at_call 119; go_must (refine (HC.out _ _ _).mono ?_); rintro e w3 ⟨rfl, rfl⟩))
      go_ret
      exact ⟨rfl, HK2.out⟩
  · rw [if_neg h1]
    rw [decide_eq_false h1] at HX
    by_cases h2 : 9223372036854775808 ≤ y
    · rw [if_pos h2]
      rw [decide_eq_true h2] at HY
      clear h1 h2
      go_enter Tryz.func122, Tryz.ntmps122
      go_wp2_with (first | (go_at_call 101; refine (HY.out _ HK1.out).mono ?_; rintro e w2 ⟨rfl, hk2⟩; have HK2 := Lib.hid (HK1.out.then_ hk2); clear hk2) | (go_at_call 101; go_must (refine HX.out.mono ?_); rintro e w1 ⟨rfl, hk1⟩; have HK1 := Lib.hid hk1; clear hk1) | (go_at_call 119; go_must (refine (HC.out _ _ _).mono ?_); rintro e w3 ⟨rfl, rfl⟩))
      go_ret
      exact ⟨rfl, HK2.out⟩
    · rw [if_neg h2]
      rw [decide_eq_false h2] at HY
      clear h1 h2
      go_enter Tryz.func122, Tryz.ntmps122
      go_wp2_with (first | (go_at_call 101; refine (HY.out _ HK1.out).mono ?_; rintro e w2 ⟨rfl, hk2⟩; have HK2 := Lib.hid (HK1.out.then_ hk2); clear hk2) | (go_at_call 101; go_must (refine HX.out.mono ?_); rintro e w1 ⟨rfl, hk1⟩; have HK1 := Lib.hid hk1; clear hk1) | (go_at_call 119; go_must (refine (HC.out _ _ _).mono ?_); rintro e w3 ⟨rfl, rfl⟩))
      go_ret
      exact ⟨rfl, HK2.out⟩
end Go.Proofs.YticnefkdkkjgcaaGreatDoor

/- nat.Cmp, whole.Cmp. -/
namespace Go.Proofs.YticnefkdkkjgcaaGreatDoor
open Go.RowKit

theorem cmpRev_step {r r' : List Nat} {i : Nat} (h : i < r.length) (h' : i < r'.length) : cmpRev (r.drop i) (r'.drop i) = if r[i] = r'[i] then cmpRev (r.drop (i + 1)) (r'.drop (i + 1)) else cmpI r[i] r'[i] := by
  rw [List.drop_eq_getElem_cons h, List.drop_eq_getElem_cons h', cmpRev]
theorem rev_get {l : List Nat} {k i : Nat} (hk : (cutL l).length = k) (hi : i < k) : (cutL l).reverse[i]'(by rw [List.length_reverse, hk]; exact hi) = l.getD (k - 1 - i) 0 := by
  have hc := cutL_len l
  have h1 := getD_cut (l := l) (i := k - 1 - i) (by omega)
  rw [List.getElem?_eq_getElem (by omega)] at h1
  rw [List.getElem_reverse]
  simp only [hk]
  simpa using h1
theorem sl_cell {w : World} {b o c i x : Nat} {xs : List Nat} (h : Sl EU w (some ⟨b, o, none⟩) c xs) (hi : i < xs.length) (hx : xs.getD i 0 = x) : w.cell? ⟨b, o + i, none⟩ = some (.int .u32 (x : Int)) := by
  obtain ⟨b1, o1, e1, hr⟩ := h.elem (i := i) hi
  simp only [Option.some.injEq, Addr.mk.injEq, and_true] at e1
  obtain ⟨rfl, rfl⟩ := e1
  have h1 := hr 0 _ rfl
  simp only [EU, Nat.add_zero, Nat.mul_one] at h1
  rw [h1, show xs[i] = x by rw [← hx, List.getD_eq_getElem?_getD, List.getElem?_eq_getElem hi]; rfl]
set_option maxRecDepth 100000 in
theorem nCmp_ok (A A' : Option Addr) (c c' L L' : Nat) (l l' : List Nat) (w : World) (hL : l.length = L) (hL' : l'.length = L') (h : Sl EU w A c l) (h' : Sl EU w A' c' l') (hl : L ≤ 1000000000) (_hl' : L' ≤ 1000000000) :
    Calls Tryz.prog 144 #[.slice A L c, .slice A' L' c'] w fun e w' => e = .returned (.int .i64 (cmpL (cutL l) (cutL l'))) ∧ Keep nob w w' := by
  have hC := cut_ok A c L l w hL h
  have hC' := cut_ok A' c' L' l' w hL' h'
  have hcl := cutL_len l
  have hcl' := cutL_len l'
  have hle := cutN_le l L
  have hle' := cutN_le l' L'
  rw [hL] at hcl
  rw [hL'] at hcl'
  obtain ⟨k, HK⟩ : ∃ k, Hid (cutN l L = k) := ⟨_, Lib.hid rfl⟩
  obtain ⟨k', HK'⟩ : ∃ k', Hid (cutN l' L' = k') := ⟨_, Lib.hid rfl⟩
  rw [HK.out] at hC hle hcl
  rw [HK'.out] at hC' hle' hcl'
  have HC := Lib.hid hC
  have HC' := Lib.hid hC'
  have HI := Lib.hid (fun (a b : Int) (wv : World) => cmpI_ok a b wv)
  clear hC hC'
  by_cases hkk : k = k'
  · subst hkk
    have hR : cmpL (cutL l) (cutL l') = cmpRev (cutL l).reverse (cutL l').reverse := by unfold cmpL; rw [if_pos (by rw [hcl, hcl'])]
    rw [hR]
    obtain ⟨T, HT⟩ : ∃ T, Hid (cmpRev (cutL l).reverse (cutL l').reverse = T) := ⟨_, Lib.hid rfl⟩
    rw [HT.out]
    have H := Lib.hid h
    have H' := Lib.hid h'
    have HCL := Lib.hid hcl
    have HCL' := Lib.hid hcl'
    have HLL := Lib.hid hL
    have HLL' := Lib.hid hL'
    clear hR h h' hcl hcl' hL hL'
    go_enter Tryz.func144, Tryz.ntmps144
    go_wp2_with (first | (go_at_call 106; (with_reducible refine HC.out.mono ?_); rintro e w1 ⟨rfl, rfl⟩) | (go_at_call 106; (with_reducible refine HC'.out.mono ?_); rintro e w1 ⟨rfl, rfl⟩))
    go_loopw [5, 6, 23] (fun u5 u6 u23 wr => ∃ i : Nat, i ≤ k ∧ u23 = .int .i64 (i : Int) ∧ Hid (cmpRev ((cutL l).reverse.drop i) ((cutL l').reverse.drop i) = T) ∧ Hid (Keep nob w1 wr)) (fun _ _ u23 _ => k - (intOf u23).toNat)
    case atStart => exact ⟨0, Nat.zero_le _, rfl, HT, Lib.hid (Keep.refl _ _)⟩
    case round =>
      obtain ⟨i, hi, rfl, HG, HKW⟩ := hrel
      rcases Nat.lt_or_ge i k with hlt | hge
      · have hd : decide ((i : Int) < (k : Int)) = true := by rw [decide_eq_true_iff]; omega
        obtain ⟨j, HJ⟩ : ∃ j, Hid (k - 1 - i = j) := ⟨_, Lib.hid rfl⟩
        have hjk : j < k := by rw [← HJ.out]; omega
        have j2 : IntKind.i64.wrap ((k : Int) - 1) = (k : Int) - 1 := by rw [IntWalk.i64_left, IntWalk.wrap64_in _ ⟨by omega, by omega⟩]
        have j3' : (k : Int) - 1 - (i : Int) = (j : Int) := by rw [← HJ.out]; omega
        have j3 : IntKind.i64.wrap ((k : Int) - 1 - (i : Int)) = (j : Int) := by rw [j3', IntWalk.i64_left, IntWalk.wrap64_in _ ⟨by omega, by omega⟩]
        have j4 : IntKind.i64.wrap (j : Int) = (j : Int) := by rw [IntWalk.i64_left, IntWalk.wrap64_in _ ⟨by omega, by omega⟩]
        have j5 : IntKind.i64.wrap ((i : Int) + 1) = (i : Int) + 1 := by rw [IntWalk.i64_left, IntWalk.wrap64_in _ ⟨by omega, by omega⟩]
        have hj0 : (0 : Int) ≤ (j : Int) := by omega
        have hj1 : (j : Int) < (k : Int) := by omega
        obtain ⟨x, HX⟩ : ∃ x, Hid (l.getD j 0 = x) := ⟨_, Lib.hid rfl⟩
        obtain ⟨y, HY⟩ : ∃ y, Hid (l'.getD j 0 = y) := ⟨_, Lib.hid rfl⟩
        have hln : l ≠ [] := fun e => by have := HLL.out; rw [e] at this; simp at this; omega
        have hln' : l' ≠ [] := fun e => by have := HLL'.out; rw [e] at this; simp at this; omega
        obtain ⟨b, o, rfl, -⟩ := H.out.at_ hln
        obtain ⟨b', o', rfl, -⟩ := H'.out.at_ hln'
        have HCE : Hid (∀ w', Kept wr w' → w'.cell? ⟨b, o + j, none⟩ = some (.int .u32 (x : Int)) ∧ w'.cell? ⟨b', o' + j, none⟩ = some (.int .u32 (y : Int))) := Lib.hid (fun w' hk =>
          ⟨sl_cell (H.out.keep (HKW.out.then_ hk) (fun ⟨_, _, h⟩ => h)) (by rw [HLL.out]; omega) HX.out, sl_cell (H'.out.keep (HKW.out.then_ hk) (fun ⟨_, _, h⟩ => h)) (by rw [HLL'.out]; omega) HY.out⟩)
        have HST : Hid ((if x = y then cmpRev ((cutL l).reverse.drop (i + 1)) ((cutL l').reverse.drop (i + 1)) else cmpI x y) = T) := by
          unfold Hid
          have h1 := cmpRev_step (r := (cutL l).reverse) (r' := (cutL l').reverse) (i := i) (by rw [List.length_reverse, HCL.out]; exact hlt) (by rw [List.length_reverse, HCL'.out]; exact hlt)
          rw [rev_get HCL.out hlt, rev_get HCL'.out hlt, HJ.out, HX.out, HY.out] at h1
          rw [← HG.out, h1]
        have HC3 := Lib.hid (cmp32_ok (x : Int) (y : Int))
        clear hln hln'
        go_upto_region 8 with (fail)
        refine wp_region_kept (by kernel_rfl) (by kernel_rfl) (QV.out ?_)
        repeat (first
          | (refine kq_skip (by rfl) (fun K hK => ?_); go_simp; refine hK _ ?_; clear hK K)
          | (refine kq_want (by rfl) (fun K hK => ?_); first
              | (refine BigFrame.quiet_move _ rfl ?_; go_simp; refine hK _ ?_; clear hK K)
              | (refine kq_still ?_ (fun w' hw' => ?_) ?_; rotate_left; (obtain ⟨c1, c2⟩ := HCE.out w' hw'; go_simp; first | done | exact rfl); go_simp; refine hK _ ?_; clear hK K)
              | (go_simp; apply Exists.intro; refine ⟨fun w' hw' => ?_, hK _ ?_⟩; (first | (fail)); rintro e w'' ⟨rfl, hk''⟩; exact ⟨rfl, hw'.then_ hk''⟩; clear hK K)))
        refine ⟨wpQuiet_nil ?_⟩
        intro w9 hk9
        have HK9 := Lib.hid hk9
        clear hk9
        by_cases hxy : x = y
        · rw [if_pos hxy] at HST
          subst hxy
          go_wp2
          exact ⟨⟨i + 1, by omega, rfl, HST, Lib.hid (HKW.out.then_ HK9.out)⟩, by simp [intOf]; omega⟩
        · rw [if_neg hxy] at HST
          have hxd : ((x : Int) == (y : Int)) = false := by rw [beq_eq_false_iff_ne]; omega
          rw [HST.out] at HC3
          clear hxy
          go_upto_region 9 with (fail)
          refine wp_region_kept (by kernel_rfl) (by kernel_rfl) (QV.out ?_)
          repeat (first
            | (refine kq_skip (by rfl) (fun K hK => ?_); go_simp; refine hK _ ?_; clear hK K)
            | (refine kq_want (by rfl) (fun K hK => ?_); first
                | (refine BigFrame.quiet_move _ rfl ?_; go_simp; refine hK _ ?_; clear hK K)
                | (refine kq_still ?_ (fun w' hw' => ?_) ?_; rotate_left; (obtain ⟨c1, c2⟩ := HCE.out w' (HK9.out.then_ hw'); go_simp; first | done | exact rfl); go_simp; refine hK _ ?_; clear hK K)
                | (go_simp; apply Exists.intro; refine ⟨fun w' hw' => ?_, hK _ ?_⟩; (first | (go_at_call 159; refine (HC3.out w').mono ?_; rintro e w'' ⟨rfl, rfl⟩; exact ⟨rfl, hw'⟩)); clear hK K)))
          refine ⟨wpQuiet_nil ?_⟩
          intro w10 hk10
          go_wp2
          go_ret
          exact ⟨rfl, (HKW.out.then_ HK9.out).then_ hk10⟩
      · obtain rfl : i = k := by omega
        have hd : decide ((i : Int) < (i : Int)) = false := by rw [decide_eq_false_iff_not]; omega
        have HT0 : Hid (T = 0) := by
          unfold Hid
          rw [← HG.out, List.drop_eq_nil_of_le (by rw [List.length_reverse, HCL.out]; exact Nat.le_refl _)]
          rfl
        go_wp2
        go_ret
        rw [HT0.out]
        exact ⟨rfl, HKW.out⟩
  · have hR : cmpL (cutL l) (cutL l') = cmpI (k : Int) (k' : Int) := by unfold cmpL; rw [if_neg (by rw [hcl, hcl']; exact hkk), hcl, hcl']
    rw [hR]
    have hd : ((k : Int) == (k' : Int)) = false := by rw [beq_eq_false_iff_ne]; omega
    clear hR hkk h h' hcl hcl'
    go_enter Tryz.func144, Tryz.ntmps144
    go_wp2_with (first | (go_at_call 106; (with_reducible refine HC.out.mono ?_); rintro e w1 ⟨rfl, rfl⟩) | (go_at_call 106; (with_reducible refine HC'.out.mono ?_); rintro e w1 ⟨rfl, rfl⟩) | (go_at_call 158; go_must (refine (HI.out _ _ _).mono ?_); rintro e w2 ⟨rfl, rfl⟩))
    go_ret
    exact ⟨rfl, Keep.refl _ _⟩
end Go.Proofs.YticnefkdkkjgcaaGreatDoor

/- whole.Cmp. -/
namespace Go.Proofs.YticnefkdkkjgcaaGreatDoor
open Go.RowKit

theorem cutL_nrm_self {l : List Nat} (h : Nrm l) : cutL l = l := by
  by_cases hn : l = []
  · subst hn; rfl
  · have h1 := h.last hn
    have hp : 0 < l.length := List.length_pos_iff.2 hn
    obtain ⟨n, hln⟩ : ∃ n, l.length = n + 1 := ⟨l.length - 1, by omega⟩
    have h2 : cutN l l.length = l.length := by
      rw [hln, cutN, if_neg]
      rw [List.getD_eq_getElem?_getD, List.getElem?_eq_getElem (by omega)]
      rw [List.getLast_eq_getElem] at h1
      simpa [hln] using h1
    unfold cutL
    rw [h2, List.take_length]
theorem cutL_idem (l : List Nat) : cutL (cutL l) = cutL l := cutL_nrm_self (cutL_nrm l)
set_option maxRecDepth 100000 in
theorem wCmp_ok (neg neg' : Bool) (A A' : Option Addr) (c c' L L' : Nat) (l l' : List Nat) (w : World) (hL : l.length = L) (hL' : l'.length = L') (h : Sl EU w A c l) (h' : Sl EU w A' c' l') (hl : L ≤ 1000000000) (hl' : L' ≤ 1000000000) :
    Calls Tryz.prog 121 #[intV neg A L c, intV neg' A' L' c'] w fun e w' => e = .returned (.int .i64 (cmpW neg l neg' l')) ∧ Keep nob w w' := by
  obtain ⟨w0, HW0⟩ : ∃ w0, Hid ((w.alloc (.cells #[.bool neg, .slice A L c] 36)).alloc (.cells #[.bool neg', .slice A' L' c'] 36) = w0) := ⟨_, Lib.hid rfl⟩
  have HK0 : Hid (Keep nob w w0) := by unfold Hid; rw [← HW0.out]; exact ((Keep.refl _ _).alloc _).alloc _
  have c0 : w0.cell? ⟨w.heap.size, 0, none⟩ = some (.bool neg) := by rw [← HW0.out]; simp
  have c1 : w0.cell? ⟨w.heap.size, 1, none⟩ = some (.slice A L c) := by rw [← HW0.out]; simp
  have c2 : w0.cell? ⟨w.heap.size + 1, 0, none⟩ = some (.bool neg') := by rw [← HW0.out]; simp
  have c3 : w0.cell? ⟨w.heap.size + 1, 1, none⟩ = some (.slice A' L' c') := by rw [← HW0.out]; simp
  have HS1 := Lib.hid (fun (wv : World) (hk : Keep nob w0 wv) => wsigned_ok neg A c L l wv hL (h.keep (HK0.out.then_ hk) (fun ⟨_, _, h⟩ => h)) hl)
  have HS2 := Lib.hid (fun (wv : World) (hk : Keep nob w0 wv) => wsigned_ok neg' A' c' L' l' wv hL' (h'.keep (HK0.out.then_ hk) (fun ⟨_, _, h⟩ => h)) hl')
  have hcl := cutL_len l
  have hcl' := cutL_len l'
  have hle := cutN_le l L
  have hle' := cutN_le l' L'
  rw [hL] at hcl
  rw [hL'] at hcl'
  obtain ⟨k, HKN⟩ : ∃ k, Hid (cutN l L = k) := ⟨_, Lib.hid rfl⟩
  obtain ⟨k', HKN'⟩ : ∃ k', Hid (cutN l' L' = k') := ⟨_, Lib.hid rfl⟩
  unfold cmpW
  rw [hL, hL', HKN.out, HKN'.out]
  rw [HKN.out] at HS1 hcl hle
  rw [HKN'.out] at HS2 hcl' hle'
  obtain ⟨s, HSG⟩ : ∃ s, Hid (sgn neg k = s) := ⟨_, Lib.hid rfl⟩
  obtain ⟨t, HTG⟩ : ∃ t, Hid (sgn neg' k' = t) := ⟨_, Lib.hid rfl⟩
  have hs := sgn_cases neg k
  have hcc := cmpL_cases (cutL l) (cutL l')
  rw [HSG.out] at HS1 hs ⊢
  rw [HTG.out] at HS2 ⊢
  have HC := Lib.hid (fun (B B' : Option Addr) (wv : World) (g : Sl EU wv B k (cutL l)) (g' : Sl EU wv B' k' (cutL l')) => nCmp_ok B B' k k' k k' (cutL l) (cutL l') wv hcl hcl' g g' (by omega) (by omega))
  rw [cutL_idem, cutL_idem] at HC
  obtain ⟨q, HQ⟩ : ∃ q, Hid (cmpL (cutL l) (cutL l') = q) := ⟨_, Lib.hid rfl⟩
  rw [HQ.out] at HC hcc ⊢
  have hsz : (w.alloc (.cells #[.bool neg, .slice A L c] 36)).heap.size = w.heap.size + 1 := by simp
  unfold intV at HS1 HS2 ⊢
  clear h h' hL hL' hcl hcl'
  by_cases h1 : s < t
  · rw [if_pos h1]
    have d1 : decide (s < t) = true := by rw [decide_eq_true_iff]; exact h1
    clear h1 hcc hs
    go_enter Tryz.func121, Tryz.ntmps121
    go_upto_region 1 with (fail)
    rw [HW0.out]
    go_wp2_with (first | (go_at_call 74; (with_reducible refine (HS1.out _ (Keep.refl _ _)).mono ?_); rintro e w1 ⟨hk1, A1, rfl, hs1, -⟩; have HK1 := Lib.hid hk1; have HSL1 := Lib.hid hs1; have c2 := hk1.cell c2 (fun h => h); have c3 := hk1.cell c3 (fun h => h); clear hk1 hs1) | (go_at_call 74; (with_reducible refine (HS2.out _ HK1.out).mono ?_); rintro e w2 ⟨hk2, A2, rfl, hs2, -⟩; have HSL2 := Lib.hid hs2; have HSL1 := Lib.hid (HSL1.out.keep hk2 (fun ⟨_, _, h⟩ => h)); have HK2 := Lib.hid (HK1.out.then_ hk2); clear hk2 hs2) | (go_at_call 144; go_must (refine (HC.out _ _ _ HSL1.out HSL2.out).mono ?_); rintro e w5 ⟨rfl, hk5⟩))
    go_ret
    exact ⟨rfl, HK0.out.then_ HK2.out⟩
  · rw [if_neg h1]
    have d1 : decide (s < t) = false := by rw [decide_eq_false_iff_not]; exact h1
    by_cases h2 : t < s
    · rw [if_pos h2]
      have d2 : decide (s > t) = true := by rw [decide_eq_true_iff]; exact h2
      clear h1 h2 hcc hs
      go_enter Tryz.func121, Tryz.ntmps121
      go_upto_region 1 with (fail)
      rw [HW0.out]
      go_wp2_with (first | (go_at_call 74; (with_reducible refine (HS1.out _ (Keep.refl _ _)).mono ?_); rintro e w1 ⟨hk1, A1, rfl, hs1, -⟩; have HK1 := Lib.hid hk1; have HSL1 := Lib.hid hs1; have c2 := hk1.cell c2 (fun h => h); have c3 := hk1.cell c3 (fun h => h); clear hk1 hs1) | (go_at_call 74; (with_reducible refine (HS2.out _ HK1.out).mono ?_); rintro e w2 ⟨hk2, A2, rfl, hs2, -⟩; have HSL2 := Lib.hid hs2; have HSL1 := Lib.hid (HSL1.out.keep hk2 (fun ⟨_, _, h⟩ => h)); have HK2 := Lib.hid (HK1.out.then_ hk2); clear hk2 hs2) | (go_at_call 144; go_must (refine (HC.out _ _ _ HSL1.out HSL2.out).mono ?_); rintro e w5 ⟨rfl, hk5⟩))
      go_ret
      exact ⟨rfl, HK0.out.then_ HK2.out⟩
    · rw [if_neg h2]
      have d2 : decide (s > t) = false := by rw [decide_eq_false_iff_not]; exact h2
      have i1 : IntKind.i64.wrap s = s := by rw [IntWalk.i64_left, IntWalk.wrap64_in _ ⟨by omega, by omega⟩]
      have i2 : IntKind.i64.wrap (s * q) = s * q := by
        rw [IntWalk.i64_left, IntWalk.wrap64_in]
        rcases hs with h | h | h <;> rcases hcc with g | g | g <;> rw [h, g] <;> decide
      clear h1 h2 hcc hs
      go_enter Tryz.func121, Tryz.ntmps121
      go_upto_region 1 with (fail)
      rw [HW0.out]
      go_wp2_with (first | (go_at_call 74; (with_reducible refine (HS1.out _ (Keep.refl _ _)).mono ?_); rintro e w1 ⟨hk1, A1, rfl, hs1, -⟩; have HK1 := Lib.hid hk1; have HSL1 := Lib.hid hs1; have c2 := hk1.cell c2 (fun h => h); have c3 := hk1.cell c3 (fun h => h); clear hk1 hs1) | (go_at_call 74; (with_reducible refine (HS2.out _ HK1.out).mono ?_); rintro e w2 ⟨hk2, A2, rfl, hs2, -⟩; have HSL2 := Lib.hid hs2; have HSL1 := Lib.hid (HSL1.out.keep hk2 (fun ⟨_, _, h⟩ => h)); have HK2 := Lib.hid (HK1.out.then_ hk2); clear hk2 hs2) | (go_at_call 144; go_must (refine (HC.out _ _ _ HSL1.out HSL2.out).mono ?_); rintro e w5 ⟨rfl, hk5⟩))
      go_ret
      exact ⟨rfl, (HK0.out.then_ HK2.out).then_ hk5⟩
end Go.Proofs.YticnefkdkkjgcaaGreatDoor

/- A region that draws its order: a head of operations and calls that keep all memory that there was, then a forced tail that waits for all of them. -/
namespace Go.Proofs.YticnefkdkkjgcaaGreatDoor
open Go.RowKit
section
variable {P : Program} {ops : Array Oper} {md : Region.Mode} {C : World → Prop}

/-- whatever order of the head is picked; only the head's operations come up -/
def headQ (P : Program) (md : Region.Mode) (ops : Array Oper) (C : World → Prop) (n : Nat) (L : Array Bool → Act → Prop) : Nat → Array Bool → Act → Prop
  | 0, listed, a => L listed a
  | f + 1, listed, a => Region.ready md ops listed ≠ [] ∧ ∀ i ∈ Region.ready md ops listed, i < n ∧ qOp P ops C i (headQ P md ops C n L f (listed.setIfInBounds i true)) a
theorem wpAny_of_headQ {n g : Nat} {L : Array Bool → Act → Prop} {Q : Exit → Act → World → Prop} (hL : ∀ listed a w, C w → L listed a → wpAny P md ops Q g listed a w) :
    ∀ (f : Nat) (listed : Array Bool) (a : Act) (w : World), C w → headQ P md ops C n L f listed a → wpAny P md ops Q (f + g) listed a w
  | 0, listed, a, w, hw, h => by rw [Nat.zero_add]; exact hL _ _ _ hw h
  | f + 1, listed, a, w, hw, h => by
    rw [show f + 1 + g = (f + g) + 1 by omega]
    exact ⟨fun h0 => absurd h0 h.1, fun i hi => wpOp_of_qOp hw (fun a' w' hw' h' => wpAny_of_headQ hL f _ a' w' hw' h') (h.2 i hi).2⟩
theorem headQ_first {n i : Nat} {oi : Oper} {v : Value} {L : Array Bool → Act → Prop} (hi : ops[i]? = some oi) (hsel : ∀ (j : Nat) (o : Oper) cs b, ops[j]? = some o → o.op ≠ .select cs b)
    (hs : Region.sinkB md ops n = true) (hc : Region.chainB md ops n = true) (hn : n < ops.size) (hin : i < n) (hdone : ∀ listed a, L listed a → ∀ j ∈ Region.ready md ops listed, n ≤ j) :
    ∀ (f : Nat) (listed : Array Bool) (a : Act), HeadInv md ops n listed →
      (∀ j oj, ops[j]? = some oj → j ≠ i → listed.getD j true = false → (∀ e ∈ oj.after, Region.binds md e = true → e.on ≠ i) → oi.apart ops oj = true) →
      i ∈ Region.ready md ops listed → YieldsIn P ops C oi v a →
      headQ P md ops C n L f (listed.setIfInBounds i true) (a.put oi.dst v) → headQ P md ops C n L (f + 1) listed a := by
  intro f
  induction f with
  | zero =>
    intro listed a inv _ hr hy H
    refine ⟨fun h => (by rw [h] at hr; cases hr), fun j hj => ?_⟩
    have hjn : j < n := by
      rcases Nat.lt_or_ge j n with h | h
      · exact h
      · exact absurd hj (tail_waits hs hc hn inv _ i rfl hin (mem_ready.1 hr).1 j h)
    refine ⟨hjn, ?_⟩
    rcases Decidable.em (j = i) with hji | hji
    · subst hji; exact hy.qOp hi H
    · have := hdone _ _ H j (ready_mono hj hji)
      omega
  | succ f ih =>
    intro listed a inv hfree hr hy H
    have hun := (mem_ready.1 hr).1
    refine ⟨fun h => (by rw [h] at hr; cases hr), fun j hj => ?_⟩
    have hjn : j < n := by
      rcases Nat.lt_or_ge j n with h | h
      · exact h
      · exact absurd hj (tail_waits hs hc hn inv _ i rfl hin hun j h)
    refine ⟨hjn, ?_⟩
    rcases Decidable.em (j = i) with hji | hji
    · subst hji; exact hy.qOp hi H
    · obtain ⟨hjun, oj, hoj, hall⟩ := mem_ready.1 hj
      have hnot : ∀ e ∈ oj.after, Region.binds md e = true → e.on ≠ i := fun e he hb heq => by
        have h1 := hall e he hb
        rw [heq, getD_both hun] at h1
        cases h1
      have h2 := qOp_put hoj (hfree j oj hoj hji hjun hnot) (fun cs b => hsel i oi cs b hi) (fun cs b => hsel j oj cs b hoj) hy (H.2 j (ready_mono hj hji)).2
      refine qOp_mono (fun a' h3 => ih (listed.setIfInBounds j true) a' (inv.set hj hjn) (fun k ok hk hki hku hkn => hfree k ok hk hki ?_ hkn) (ready_mono hr (Ne.symm hji)) h3.1 ?_) h2
      · rcases Decidable.em (j = k) with hjk | hjk
        · subst hjk; exact hjun
        · rwa [getD_set_ne true hjk] at hku
      · rw [Array.setIfInBounds_comm _ _ hji]
        exact h3.2
theorem headQ_lex {n g : Nat} {Lq : Act → Prop} (hsel : Region.noSelect ops = true) (hs : Region.sinkB md ops n = true) (hc : Region.chainB md ops n = true) (hn : n < ops.size) :
    ∀ (l : List Oper) (k : Nat) (listed : Array Bool) (a : Act), (∀ j, j < l.length → l[j]? = ops[k + j]?) → k + l.length = n → HeadInv md ops n listed →
    Region.lexHead md ops g l.length k listed = true → wpQuiet P ops C Lq l a → headQ P md ops C n (fun listed' a' => Region.seqB md ops g n listed' = true ∧ Lq a') l.length listed a
  | [], k, listed, a, _, hk, _, hB, h => by
    have : k = n := by simpa using hk
    subst this
    exact ⟨by simpa [Region.lexHead] using hB, h⟩
  | o :: l, k, listed, a, hl, hk, inv, hB, h => by
    have h0 : ops[k]? = some o := by simpa using (hl 0 (by simp)).symm
    simp only [List.length_cons, Region.lexHead, Bool.and_eq_true] at hB
    obtain ⟨⟨hr, hf⟩, hB'⟩ := hB
    have hkn : k < n := by simp only [List.length_cons] at hk; omega
    have hr' : k ∈ Region.ready md ops listed := by simpa using hr
    have hst : qOp P ops C k (wpQuiet P ops C Lq l) a := by unfold qOp; simp only [h0]; exact h
    obtain ⟨v, hy, hK⟩ := yieldsIn_of_qOp h0 hst
    exact headQ_first h0 (Region.noSelect_spec hsel) hs hc hn hkn (fun listed' a' hL => seqB_ready hL.1) l.length listed a inv (Region.free_spec h0 hf) hr' hy
      (headQ_lex hsel hs hc hn l (k + 1) _ _ (fun j hj => by have := hl (j + 1) (by simp; omega); simpa [Nat.add_assoc, Nat.add_comm 1 j] using this) (by simp only [List.length_cons] at hk; omega) (inv.set hr' hkn) hB' hK)
theorem wp_region_kept_tail {id : Nat} {Q : Exit → Act → World → Prop} {a : Act} {w : World} {l : List Oper} (n : Nat) (hm : P.follows .mixedOrders = true) (hB : Region.lexTailB .any l.toArray n = true)
    (h : wpQuiet P l.toArray (Kept w) (fun a' => ∀ w', Kept w w' → wpList P l.toArray Q (l.drop n) a' w') (l.take n) a) : (Code.region id l.toArray true).wp P Q a w := by
  simp only [Region.lexTailB, Bool.and_eq_true, decide_eq_true_eq] at hB
  obtain ⟨⟨⟨⟨hsel, hn⟩, hs⟩, hc⟩, hlex⟩ := hB
  have hn' : n < l.length := by simpa using hn
  have htl : (l.take n).length = n := by simp; omega
  have hdl : (l.drop n).length = l.toArray.size - n := by simp
  have inv0 : HeadInv .any l.toArray n (Array.replicate l.toArray.size false) :=
    ⟨by simp, fun j oj _ hl => (by rw [getD_replicate_false] at hl; cases hl), fun t _ ht => getD_in (by simpa using ht) (getD_replicate_false _ _)⟩
  have H := headQ_lex (md := .any) (g := l.toArray.size - n) hsel hs hc hn (l.take n) 0 _ a (fun j hj => by
    have hj' : j < n := by rw [htl] at hj; exact hj
    simp [hj']) (by simpa using htl) inv0 (by rw [htl]; exact hlex) h
  refine wp_region_any hm ?_
  have := wpAny_of_headQ (Q := Q) (g := l.toArray.size - n) (fun listed a' w' hw' hL => by
    have := wpAny_of_seq (md := .any) (Q' := Q) (l.drop n) n listed a' w' (fun j => by simp [List.getElem?_drop]) (by rw [hdl]; exact hL.1) (hL.2 w' hw')
    rwa [hdl] at this) _ _ _ _ ((Keep.refl _ w).drew : Kept w { w with drawn := w.drawn + 1 }) H
  rw [htl, show n + (l.toArray.size - n) = l.toArray.size by omega] at this
  exact this
end
end Go.Proofs.YticnefkdkkjgcaaGreatDoor

/- value.Compare, slices.CompareFunc at it. -/
namespace Go.Proofs.YticnefkdkkjgcaaGreatDoor
open Go.RowKit

/-- what value.Compare answers of a value -/
def CmpC (B : Nat) (sa : Nat → Addr) (v : V) : Prop := ∀ (v' : V) (r r' : Raw) (D D' : Nat → Prop) (w : World), GL B sa w → Tr w D r v → Tr w D' r' v' → Sm v → Sm v' →
  Calls Tryz.prog 90 #[ER.val r, ER.val r'] w fun e w' => e = .returned (.int .i64 (cmpV v v')) ∧ Keep nob w w'
theorem nobD (D : Nat → Prop) : ∀ b, D b → ¬ nob b := fun _ _ h => h

theorem range_keep {w w' : World} {b o : Nat} {l : List Value} (k : Keep nob w w') (h : w.rangeAt b o l) : w'.rangeAt b o l := fun j v hj => k.cell (h j v hj) (fun h => h)
theorem cells_val' {w : World} {b p : Nat} {r : Raw} (h : w.rangeAt b p (ER.cells r)) : w.cell? ⟨b, p, none⟩ = some (.int .i8 (r.kind : Int)) ∧ w.cell? ⟨b, p + 1, none⟩ = some (.int .u64 (r.n : Int)) ∧ w.cell? ⟨b, p + 2, none⟩ = some (.bool r.neg) ∧
    w.cell? ⟨b, p + 3, none⟩ = some (.slice r.mA r.mL r.mC) ∧ w.cell? ⟨b, p + 4, none⟩ = some (.int .u64 (r.bits : Int)) ∧ w.cell? ⟨b, p + 5, none⟩ = some (.int .i8 r.ext) ∧ w.cell? ⟨b, p + 6, none⟩ = some (.string r.text) ∧ w.cell? ⟨b, p + 7, none⟩ = some (.slice r.kA r.kL r.kC) :=
  ⟨h 0 _ rfl, h 1 _ rfl, h 2 _ rfl, h 3 _ rfl, h 4 _ rfl, h 5 _ rfl, h 6 _ rfl, h 7 _ rfl⟩
set_option maxRecDepth 100000 in
set_option maxHeartbeats 1000000 in
theorem compareFunc_ok (B : Nat) (sa : Nat → Addr) (vs vs' : List V) (hall : ∀ v ∈ vs, CmpC B sa v) (rs rs' : List Raw) (A A' : Option Addr) (c c' n n' : Nat) (D D' : Nat → Prop) (w : World) (g : GL B sa w) (hn : rs.length = n) (hn' : rs'.length = n') (h : Sl ER w A c rs) (h' : Sl ER w A' c' rs')
    (ht : TrL w D rs vs) (ht' : TrL w D' rs' vs') (hs : SmL vs) (hs' : SmL vs') :
    Calls Tryz.prog 124 #[.slice A n c, .slice A' n' c', .func (.func 90) #[] #[]] w fun e w' => e = .returned (.int .i64 (cmpVL vs vs')) ∧ Keep nob w w' := by
  have hle := h.le
  have hcc := h.cap
  have hle' := h'.le
  have hcc' := h'.cap
  rw [hn] at hle
  rw [hn'] at hle'
  have H := Lib.hid h
  have H' := Lib.hid h'
  have HN := Lib.hid hn
  have HN' := Lib.hid hn'
  have HV : Hid (vs.length = n) := Lib.hid (by rw [← ht.len, hn])
  have HV' : Hid (vs'.length = n') := Lib.hid (by rw [← ht'.len, hn'])
  have HT := Lib.hid ht
  have HT' := Lib.hid ht'
  have HG := Lib.hid g
  have HS := Lib.hid hs
  have HS' := Lib.hid hs'
  have HALL := Lib.hid hall
  clear h h' hn hn' ht ht' g hs hs' hall
  go_enter Tryz.func124, Tryz.ntmps124
  go_wp2_with (fail)
  go_loopw [7, 8, 9, 10, 13] (fun u7 u8 u9 u10 u13 wr => ∃ i : Nat, i ≤ n ∧ u13 = .int .i64 (i : Int) ∧ Hid (cmpVL (vs.drop i) (vs'.drop i) = cmpVL vs vs') ∧ Hid (i ≤ n') ∧ Hid (Keep nob w wr)) (fun _ _ _ _ u13 _ => n - (intOf u13).toNat)
  case atStart => exact ⟨0, Nat.zero_le _, rfl, Lib.hid rfl, Lib.hid (Nat.zero_le _), Lib.hid (Keep.refl _ _)⟩
  case round =>
    obtain ⟨i, hi, rfl, HF, HI, HK⟩ := hrel
    rcases Nat.lt_or_ge i n with hlt | hge
    · have hd : decide ((i : Int) < (n : Int)) = true := by rw [decide_eq_true_iff]; omega
      have hi0 : (0 : Int) ≤ (i : Int) := by omega
      have hi1 : (i : Int) < (n : Int) := by omega
      have hil : i < rs.length := by rw [HN.out]; exact hlt
      obtain ⟨b, o, rfl, hx⟩ := (H.out.keep HK.out (fun ⟨_, _, h⟩ => h)).elem (i := i) hil
      obtain ⟨r, HR⟩ : ∃ r, Hid (rs[i] = r) := ⟨_, Lib.hid rfl⟩
      rw [HR.out] at hx
      obtain ⟨p, HP⟩ : ∃ p, Hid (o + i * 8 = p) := ⟨_, Lib.hid rfl⟩
      have hx2 : wr.rangeAt b p (ER.cells r) := by rw [← HP.out]; exact hx
      obtain ⟨e0, e1, e2, e3, e4, e5, e6, e7⟩ := cells_val' hx2
      have hp := HP.out
      have hRN := range_new wr r 39
      have HKA : Hid (Keep nob wr (wr.alloc (.cells (ER.cells r).toArray 39))) := Lib.hid ((Keep.refl _ _).alloc _)
      have HRN := Lib.hid hRN
      clear hx hx2 hRN
      go_upto_region 4 with (fail)
      obtain ⟨w1, HW1⟩ : ∃ w1, Hid (wr.alloc (.cells (ER.cells r).toArray 39) = w1) := ⟨_, Lib.hid rfl⟩
      obtain ⟨b8, HB8⟩ : ∃ b8, Hid (wr.heap.size = b8) := ⟨_, Lib.hid rfl⟩
      rw [HW1.out] at HRN HKA
      rw [HB8.out] at HRN ⊢
      rw [show wr.alloc (.cells #[.int .i8 (r.kind : Int), .int .u64 (r.n : Int), .bool r.neg, .slice r.mA r.mL r.mC, .int .u64 (r.bits : Int), .int .i8 r.ext, .string r.text, .slice r.kA r.kL r.kC] 39) = w1 from HW1.out]
      clear e0 e1 e2 e3 e4 e5 e6 e7
      have HK1 := Lib.hid (HK.out.then_ HKA.out)
      rcases Nat.lt_or_ge i n' with hlt' | hge'
      · have hd2 : decide ((i : Int) ≥ (n' : Int)) = false := by rw [decide_eq_false_iff_not]; omega
        have hj1 : (i : Int) < (n' : Int) := by omega
        have hil' : i < rs'.length := by rw [HN'.out]; exact hlt'
        obtain ⟨b', o', rfl, hy⟩ := (H'.out.keep HK1.out (fun ⟨_, _, h⟩ => h)).elem (i := i) hil'
        obtain ⟨r', HR'⟩ : ∃ r', Hid (rs'[i] = r') := ⟨_, Lib.hid rfl⟩
        rw [HR'.out] at hy
        obtain ⟨p', HP'⟩ : ∃ p', Hid (o' + i * 8 = p') := ⟨_, Lib.hid rfl⟩
        have hy2 : w1.rangeAt b' p' (ER.cells r') := by rw [← HP'.out]; exact hy
        obtain ⟨e0, e1, e2, e3, e4, e5, e6, e7⟩ := cells_val' hy2
        have hp' := HP'.out
        have HRN' := Lib.hid (range_new w1 r' 39)
        have HKA' : Hid (Keep nob w1 (w1.alloc (.cells (ER.cells r').toArray 39))) := Lib.hid ((Keep.refl _ _).alloc _)
        clear hy hy2
        go_upto_region 7 with (fail)
        obtain ⟨w2, HW2⟩ : ∃ w2, Hid (w1.alloc (.cells (ER.cells r').toArray 39) = w2) := ⟨_, Lib.hid rfl⟩
        obtain ⟨b9, HB9⟩ : ∃ b9, Hid (w1.heap.size = b9) := ⟨_, Lib.hid rfl⟩
        rw [HW2.out] at HRN' HKA'
        rw [HB9.out] at HRN' ⊢
        rw [show w1.alloc (.cells #[.int .i8 (r'.kind : Int), .int .u64 (r'.n : Int), .bool r'.neg, .slice r'.mA r'.mL r'.mC, .int .u64 (r'.bits : Int), .int .i8 r'.ext, .string r'.text, .slice r'.kA r'.kL r'.kC] 39) = w2 from HW2.out]
        clear e0 e1 e2 e3 e4 e5 e6 e7
        have HK2 := Lib.hid (HK1.out.then_ HKA'.out)
        obtain ⟨e0, e1, e2, e3, e4, e5, e6, e7⟩ := cells_val (range_keep HKA'.out HRN.out)
        obtain ⟨d0, d1, d2, d3, d4, d5, d6, d7⟩ := cells_val HRN'.out
        have hvl : i < vs.length := by rw [HV.out]; exact hlt
        have hvl' : i < vs'.length := by rw [HV'.out]; exact hlt'
        have hC := HALL.out vs[i] (List.getElem_mem hvl) vs'[i] r r' D D' w2 (HG.out.keep HK2.out (fun _ h => h.elim)) (by rw [← HR.out]; exact Tr.keep HK2.out (nobD D) _ _ (HT.out.get i hil hvl)) (by rw [← HR'.out]; exact Tr.keep HK2.out (nobD D') _ _ (HT'.out.get i hil' hvl')) (HS.out.get i hvl) (HS'.out.get i hvl')
        have hst := cmpVL_step hvl hvl'
        rw [HF.out] at hst
        obtain ⟨q, HQ⟩ : ∃ q, Hid (cmpV vs[i] vs'[i] = q) := ⟨_, Lib.hid rfl⟩
        rw [HQ.out] at hC hst
        have HST := Lib.hid hst
        have i5 : IntKind.i64.wrap ((i : Int) + 1) = (i : Int) + 1 := by rw [IntWalk.i64_left, IntWalk.wrap64_in _ ⟨by omega, by omega⟩]
        simp only [ER] at hC
        clear hst
        by_cases hq : q = 0
        · subst hq
          rw [orI_zero] at HST
          go_wp2_with (go_at_call 90; go_must (refine hC.mono ?_); rintro e w3 ⟨rfl, hk3⟩)
          exact ⟨⟨i + 1, by omega, rfl, Lib.hid HST.out.symm, Lib.hid hlt', Lib.hid (HK2.out.then_ hk3)⟩, by simp [intOf]; omega⟩
        · have hqd : (q == 0) = false := by rw [beq_eq_false_iff_ne]; exact hq
          rw [orI_ne _ hq] at HST
          clear hq
          go_wp2_with (go_at_call 90; go_must (refine hC.mono ?_); rintro e w3 ⟨rfl, hk3⟩)
          go_ret
          rw [HST.out]
          exact ⟨rfl, HK2.out.then_ hk3⟩
      · have hd2 : decide ((i : Int) ≥ (n' : Int)) = true := by rw [decide_eq_true_iff]; omega
        have hst := cmpVL_more (l := vs) (l' := vs') (i := i) (by rw [HV.out]; exact hlt) (by rw [HV'.out]; exact hge')
        rw [HF.out] at hst
        have HST := Lib.hid hst
        clear hst
        go_wp2
        go_ret
        rw [HST.out]
        exact ⟨rfl, HK1.out⟩
    · obtain rfl : i = n := by omega
      have hd : decide ((i : Int) < (i : Int)) = false := by rw [decide_eq_false_iff_not]; omega
      have hin := HI.out
      rcases Nat.lt_or_ge i n' with hlt' | hge'
      · have hd2 : decide ((i : Int) < (n' : Int)) = true := by rw [decide_eq_true_iff]; omega
        have hst := cmpVL_less (l := vs) (l' := vs') (i := i) (by rw [HV.out]; exact Nat.le_refl _) (by rw [HV'.out]; exact hlt')
        rw [HF.out] at hst
        have HST := Lib.hid hst
        clear hst
        go_wp2
        go_ret
        rw [HST.out]
        exact ⟨rfl, HK.out⟩
      · have hd2 : decide ((i : Int) < (n' : Int)) = false := by rw [decide_eq_false_iff_not]; omega
        have hst := cmpVL_end (l := vs) (l' := vs') (i := i) (by rw [HV.out]; exact Nat.le_refl _) (by rw [HV'.out]; exact hge')
        rw [HF.out] at hst
        have HST := Lib.hid hst
        clear hst
        go_wp2
        go_ret
        rw [HST.out]
        exact ⟨rfl, HK.out⟩
end Go.Proofs.YticnefkdkkjgcaaGreatDoor

/- value.Compare. -/
namespace Go.Proofs.YticnefkdkkjgcaaGreatDoor
open Go.RowKit

theorem orI_right (x : Int) : orI x 0 = x := by
  unfold orI
  split
  · rename_i h; exact h.symm
  · rfl
set_option maxRecDepth 100000 in
set_option maxHeartbeats 1000000 in
theorem compare_step (B : Nat) (sa : Nat → Addr) (k n : Nat) (neg : Bool) (mag : List Nat) (bits : Nat) (ext : Int) (text : ByteArray) (kids : List V) (hall : ∀ v ∈ kids, CmpC B sa v) : CmpC B sa (.mk k n neg mag bits ext text kids) := by
  rintro ⟨k', n', neg', mag', bits', ext', text', kids'⟩ ⟨rk, rn, rneg, rA, rL, rC, rbits, rext, rtext, rkA, rkL, rkC⟩ ⟨rk', rn', rneg', rA', rL', rC', rbits', rext', rtext', rkA', rkL', rkC'⟩ D D' w g ht ht' hs hs'
  obtain ⟨rfl, rfl, rfl, rfl, rfl, rfl, ⟨hL, hsl, -⟩, rs, hkL, hks, -, hkt⟩ := ht
  obtain ⟨rfl, rfl, rfl, rfl, rfl, rfl, ⟨hL', hsl', -⟩, rs', hkL', hks', -, hkt'⟩ := ht'
  dsimp only at hL hsl hkL hks hkt hL' hsl' hkL' hks' hkt' ⊢
  obtain ⟨hm, hkl, hb, hsk⟩ := hs
  obtain ⟨hm', hkl', hb', hsk'⟩ := hs'
  obtain ⟨w0, HW0⟩ : ∃ w0, Hid ((w.alloc (.cells #[.int .i8 (rk : Int), .int .u64 (rn : Int), .bool rneg, .slice rA rL rC, .int .u64 (rbits : Int), .int .i8 rext, .string rtext, .slice rkA rkL rkC] 39)).alloc (.cells #[.int .i8 (rk' : Int), .int .u64 (rn' : Int), .bool rneg', .slice rA' rL' rC', .int .u64 (rbits' : Int), .int .i8 rext', .string rtext', .slice rkA' rkL' rkC'] 39) = w0) := ⟨_, Lib.hid rfl⟩
  have HK0 : Hid (Keep nob w w0) := by unfold Hid; rw [← HW0.out]; exact ((Keep.refl _ _).alloc _).alloc _
  have hr1 : w0.rangeAt w.heap.size 0 (ER.cells ⟨rk, rn, rneg, rA, rL, rC, rbits, rext, rtext, rkA, rkL, rkC⟩) := by
    rw [← HW0.out]
    exact range_keep ((Keep.refl nob _).alloc _) (range_new w ⟨rk, rn, rneg, rA, rL, rC, rbits, rext, rtext, rkA, rkL, rkC⟩ 39)
  have hsz : (w.alloc (.cells #[.int .i8 (rk : Int), .int .u64 (rn : Int), .bool rneg, .slice rA rL rC, .int .u64 (rbits : Int), .int .i8 rext, .string rtext, .slice rkA rkL rkC] 39)).heap.size = w.heap.size + 1 := by simp
  have hr2 : w0.rangeAt (w.heap.size + 1) 0 (ER.cells ⟨rk', rn', rneg', rA', rL', rC', rbits', rext', rtext', rkA', rkL', rkC'⟩) := by
    rw [← HW0.out, ← hsz]
    exact range_new _ ⟨rk', rn', rneg', rA', rL', rC', rbits', rext', rtext', rkA', rkL', rkC'⟩ 39
  obtain ⟨p, HP⟩ : ∃ p, Hid (w.heap.size = p) := ⟨_, Lib.hid rfl⟩
  obtain ⟨q, HQ⟩ : ∃ q, Hid (w.heap.size + 1 = q) := ⟨_, Lib.hid rfl⟩
  rw [HP.out] at hr1
  rw [HQ.out] at hr2
  have HCE : Hid (∀ w', Kept w0 w' → w'.cell? ⟨p, 0, none⟩ = some (.int .i8 (rk : Int)) ∧ w'.cell? ⟨p, 1, none⟩ = some (.int .u64 (rn : Int)) ∧ w'.cell? ⟨p, 2, none⟩ = some (.bool rneg) ∧ w'.cell? ⟨p, 3, none⟩ = some (.slice rA rL rC) ∧ w'.cell? ⟨p, 4, none⟩ = some (.int .u64 (rbits : Int)) ∧ w'.cell? ⟨p, 5, none⟩ = some (.int .i8 rext) ∧ w'.cell? ⟨p, 6, none⟩ = some (.string rtext) ∧
      w'.cell? ⟨q, 0, none⟩ = some (.int .i8 (rk' : Int)) ∧ w'.cell? ⟨q, 1, none⟩ = some (.int .u64 (rn' : Int)) ∧ w'.cell? ⟨q, 2, none⟩ = some (.bool rneg') ∧ w'.cell? ⟨q, 3, none⟩ = some (.slice rA' rL' rC') ∧ w'.cell? ⟨q, 4, none⟩ = some (.int .u64 (rbits' : Int)) ∧ w'.cell? ⟨q, 5, none⟩ = some (.int .i8 rext') ∧ w'.cell? ⟨q, 6, none⟩ = some (.string rtext')) := Lib.hid (fun w' hk => by
    obtain ⟨a0, a1, a2, a3, a4, a5, a6, -⟩ := cells_val (range_keep hk hr1)
    obtain ⟨b0, b1, b2, b3, b4, b5, b6, -⟩ := cells_val (range_keep hk hr2)
    exact ⟨a0, a1, a2, a3, a4, a5, a6, b0, b1, b2, b3, b4, b5, b6⟩)
  have HK7 : Hid (∀ w', Kept w0 w' → w'.cell? ⟨p, 7, none⟩ = some (.slice rkA rkL rkC) ∧ w'.cell? ⟨q, 7, none⟩ = some (.slice rkA' rkL' rkC')) := Lib.hid (fun w' hk => by
    obtain ⟨-, -, -, -, -, -, -, a7⟩ := cells_val (range_keep hk hr1)
    obtain ⟨-, -, -, -, -, -, -, b7⟩ := cells_val (range_keep hk hr2)
    exact ⟨a7, b7⟩)
  unfold cmpV
  have H1 : Hid (∀ w', Kept w0 w' → Calls Tryz.prog 118 #[.int .i8 (rk : Int), .int .i8 (rk' : Int)] w' fun e w'' => e = .returned (.int .i64 (cmpI rk rk')) ∧ Keep nob w' w'') := Lib.hid (fun w' _ => (cmpKind_ok _ _ _).mono fun e w'' ⟨h1, h2⟩ => ⟨h1, h2 ▸ Keep.refl _ _⟩)
  have H2 : Hid (∀ w', Kept w0 w' → Calls Tryz.prog 119 #[.int .u64 (rn : Int), .int .u64 (rn' : Int)] w' fun e w'' => e = .returned (.int .i64 (cmpI rn rn')) ∧ Keep nob w' w'') := Lib.hid (fun w' _ => (cmp64_ok _ _ _).mono fun e w'' ⟨h1, h2⟩ => ⟨h1, h2 ▸ Keep.refl _ _⟩)
  have H3 : Hid (∀ w', Kept w0 w' → Calls Tryz.prog 120 #[.int .i8 rext, .int .i8 rext'] w' fun e w'' => e = .returned (.int .i64 (cmpI rext rext')) ∧ Keep nob w' w'') := Lib.hid (fun w' _ => (cmp8_ok _ _ _).mono fun e w'' ⟨h1, h2⟩ => ⟨h1, h2 ▸ Keep.refl _ _⟩)
  have H4 : Hid (∀ w', Kept w0 w' → Calls Tryz.prog 121 #[.agg #[.bool rneg, .slice rA rL rC], .agg #[.bool rneg', .slice rA' rL' rC']] w' fun e w'' => e = .returned (.int .i64 (cmpW rneg mag rneg' mag')) ∧ Keep nob w' w'') := Lib.hid (fun w' hk => wCmp_ok rneg rneg' rA rA' rC rC' rL rL' mag mag' w' hL.symm hL'.symm (hsl.keep (HK0.out.then_ hk) (fun ⟨_, _, h⟩ => h)) (hsl'.keep (HK0.out.then_ hk) (fun ⟨_, _, h⟩ => h)) (by omega) (by omega))
  have H5 : Hid (∀ w', Kept w0 w' → Calls Tryz.prog 122 #[.int .u64 (rbits : Int), .int .u64 (rbits' : Int)] w' fun e w'' => e = .returned (.int .i64 (total64 rbits rbits')) ∧ Keep nob w' w'') := Lib.hid (fun w' hk => total64_ok rbits rbits' B hb hb' sa w' (g.keep (HK0.out.then_ hk) (fun _ h => h.elim)))
  have H6 : Hid (∀ w', Kept w0 w' → Calls Tryz.prog 123 #[.string rtext, .string rtext'] w' fun e w'' => e = .returned (.int .i64 (lexN (bl rtext) (bl rtext'))) ∧ Keep nob w' w'') := Lib.hid (fun w' _ => (cmpS_ok _ _ _).mono fun e w'' ⟨h1, h2⟩ => ⟨h1, h2 ▸ Keep.refl _ _⟩)
  have HCF := Lib.hid (fun (w' : World) (hk : Kept w0 w') => compareFunc_ok B sa kids kids' hall rs rs' rkA rkA' rkC rkC' rkL rkL' D D' w' (g.keep (HK0.out.then_ hk) (fun _ h => h.elim)) hkL.symm hkL'.symm (hks.keep (HK0.out.then_ hk) (fun ⟨_, _, h⟩ => h)) (hks'.keep (HK0.out.then_ hk) (fun ⟨_, _, h⟩ => h)) (TrL.keep (HK0.out.then_ hk) (nobD D) _ _ hkt) (TrL.keep (HK0.out.then_ hk) (nobD D') _ _ hkt') hsk hsk')
  obtain ⟨x1, HX1⟩ : ∃ x, Hid (cmpI rk rk' = x) := ⟨_, Lib.hid rfl⟩
  obtain ⟨x2, HX2⟩ : ∃ x, Hid (cmpI rn rn' = x) := ⟨_, Lib.hid rfl⟩
  obtain ⟨x3, HX3⟩ : ∃ x, Hid (cmpI rext rext' = x) := ⟨_, Lib.hid rfl⟩
  obtain ⟨x4, HX4⟩ : ∃ x, Hid (cmpW rneg mag rneg' mag' = x) := ⟨_, Lib.hid rfl⟩
  obtain ⟨x5, HX5⟩ : ∃ x, Hid (total64 rbits rbits' = x) := ⟨_, Lib.hid rfl⟩
  obtain ⟨x6, HX6⟩ : ∃ x, Hid (lexN (bl rtext) (bl rtext') = x) := ⟨_, Lib.hid rfl⟩
  obtain ⟨x7, HX7⟩ : ∃ x, Hid (cmpVL kids kids' = x) := ⟨_, Lib.hid rfl⟩
  rw [HX1.out] at H1
  rw [HX2.out] at H2
  rw [HX3.out] at H3
  rw [HX4.out] at H4
  rw [HX5.out] at H5
  rw [HX6.out] at H6
  rw [HX7.out] at HCF
  rw [HX1.out, HX2.out, HX3.out, HX4.out, HX5.out, HX6.out, HX7.out]
  obtain ⟨C, HC⟩ : ∃ C, Hid (orI x1 (orI x2 (orI x3 (orI x4 (orI x5 x6)))) = C) := ⟨_, Lib.hid rfl⟩
  rw [HC.out]
  obtain ⟨Z, HZ⟩ : ∃ Z, Hid (orI C x7 = Z) := ⟨_, Lib.hid rfl⟩
  rw [HZ.out]
  have HOR : Hid (∀ w5 : World, Calls Tryz.prog 117 #[.slice (some ⟨w5.heap.size, 0, none⟩) 6 6] (w5.alloc (.cells #[.int .i64 x1, .int .i64 x2, .int .i64 x3, .int .i64 x4, .int .i64 x5, .int .i64 x6] 3)) fun e w' => e = .returned (.int .i64 C) ∧ w' = w5.alloc (.cells #[.int .i64 x1, .int .i64 x2, .int .i64 x3, .int .i64 x4, .int .i64 x5, .int .i64 x6] 3)) := by
    refine Lib.hid (fun w5 => ?_)
    have hC : firstZ [x1, x2, x3, x4, x5, x6] = C := by rw [← HC.out]; simp only [firstZ, orI_right]
    rw [← hC]
    refine cmpOr_ok (some ⟨w5.heap.size, 0, none⟩) 6 6 [x1, x2, x3, x4, x5, x6] _ rfl ⟨Nat.le_refl _, by decide, fun _ => ⟨_, _, rfl, range_alloc_new w5 _ _ _ (fun j v hj => by simpa [El.flat_cons, El.flat_nil, EZ] using hj)⟩⟩
  clear hall g hkL hkL' hL hsl hks hkt hL' hsl' hks' hkt' hm hkl hb hsk hm' hkl' hb' hsk' hr1 hr2 hsz
  simp only [ER]
  go_enter Tryz.func90, Tryz.ntmps90
  go_upto_region 1 with (fail)
  rw [HW0.out, HQ.out, HP.out]
  refine wp_region_kept_tail 30 (by kernel_rfl) (by kernel_rfl) (QV.out ?_)
  simp only [List.take_succ_cons, List.take_zero, List.drop_succ_cons, List.drop_zero]
  repeat (first
    | (refine kq_skip (by rfl) (fun K hK => ?_); go_simp; refine hK _ ?_; clear hK K)
    | (refine kq_want (by rfl) (fun K hK => ?_); first
        | (refine BigFrame.quiet_move _ rfl ?_; go_simp; refine hK _ ?_; clear hK K)
        | (refine kq_still ?_ (fun w' hw' => ?_) ?_; rotate_left; (obtain ⟨a0, a1, a2, a3, a4, a5, a6, b0, b1, b2, b3, b4, b5, b6⟩ := HCE.out w' hw'; go_simp; first | done | exact rfl); go_simp; refine hK _ ?_; clear hK K)
        | (go_simp; apply Exists.intro; refine ⟨fun w' hw' => ?_, hK _ ?_⟩; (first | (go_at_call 118; refine (H1.out w' hw').mono ?_) | (go_at_call 119; refine (H2.out w' hw').mono ?_) | (go_at_call 120; refine (H3.out w' hw').mono ?_) | (go_at_call 121; refine (H4.out w' hw').mono ?_) | (go_at_call 122; refine (H5.out w' hw').mono ?_) | (go_at_call 123; refine (H6.out w' hw').mono ?_)); rintro e w'' ⟨rfl, hk''⟩; exact ⟨rfl, hw'.then_ hk''⟩; clear hK K)))
  refine ⟨wpQuiet_nil ?_⟩
  intro w5 hk5
  have HK5 : Hid (Keep nob w0 w5) := Lib.hid hk5
  clear hk5
  have HWA : Hid (Keep nob w5 (w5.alloc (.cells #[.int .i64 x1, .int .i64 x2, .int .i64 x3, .int .i64 x4, .int .i64 x5, .int .i64 x6] 3))) := Lib.hid ((Keep.refl _ _).alloc _)
  have HK6 := Lib.hid (HK5.out.then_ HWA.out)
  have HO5 := Lib.hid (HOR.out w5)
  obtain ⟨a7, b7⟩ := HK7.out _ HK6.out
  have HCC := Lib.hid (HCF.out _ HK6.out)
  have HK9 := Lib.hid (HK0.out.then_ HK6.out)
  clear HCF HK7 HOR H1 H2 H3 H4 H5 H6 HCE
  by_cases hc : C = 0
  · subst hc
    rw [orI_zero] at HZ
    go_upto_region 2 with (go_at_call 117; go_must (refine HO5.out.mono ?_); rintro e w6 ⟨rfl, rfl⟩)
    obtain ⟨w6, HW6⟩ : ∃ w6, Hid (w5.alloc (.cells #[.int .i64 x1, .int .i64 x2, .int .i64 x3, .int .i64 x4, .int .i64 x5, .int .i64 x6] 3) = w6) := ⟨_, Lib.hid rfl⟩
    rw [HW6.out] at HCC HK9 a7 b7 ⊢
    go_wp2_with (go_at_call 124; go_must (refine HCC.out.mono ?_); rintro e w7 ⟨rfl, hk7⟩)
    go_ret
    rw [← HZ.out]
    exact ⟨rfl, HK9.out.then_ hk7⟩
  · rw [orI_ne _ hc] at HZ
    have hcd : (C == 0) = false := by rw [beq_eq_false_iff_ne]; exact hc
    clear hc
    go_wp2_with (go_at_call 117; go_must (refine HO5.out.mono ?_); rintro e w6 ⟨rfl, rfl⟩)
    go_ret
    rw [← HZ.out]
    exact ⟨rfl, HK9.out⟩
theorem compare_ok (B : Nat) (sa : Nat → Addr) : ∀ v, CmpC B sa v
  | .mk k n neg mag bits ext text kids => compare_step B sa k n neg mag bits ext text kids (fun v _hv => compare_ok B sa v)
termination_by v => SizeOf.sizeOf v
decreasing_by
  have := List.sizeOf_lt_of_mem _hv
  simp
  omega
end Go.Proofs.YticnefkdkkjgcaaGreatDoor

/- packread's family of lists. -/
namespace Go.Proofs.YticnefkdkkjgcaaGreatDoor
open Go.RowKit

theorem infoValue : (Tryz.prog.info? 39).map (fun i => (i.zero, i.size, i.bytes)) = some (some (.agg #[.int .i8 0, .int .u64 0, .bool false, .slice none 0 0, .int .u64 0, .int .i8 0, .string ⟨#[]⟩, .slice none 0 0]), 8, 104) := by kernel_rfl
/-- a slice's new element -/
theorem one_sl (w : World) (r : Raw) (T : TypeId) : Sl ER (w.alloc (.cells (ER.cells r).toArray T)) (some ⟨w.heap.size, 0, none⟩) 1 [r] :=
  ⟨Nat.le_refl _, by decide, fun _ => ⟨_, _, rfl, range_alloc_new w _ T _ (fun j v hj => by simpa [El.flat_cons, El.flat_nil] using hj)⟩⟩
/-- blocks from a bound on, but those of a slice -/
def Del (m : Nat) (A : Option Addr) : Nat → Prop := fun k => m ≤ k ∧ ¬ AtB A k
theorem range_keepS {S : Nat → Prop} {w w' : World} {b o : Nat} {l : List Value} (k : Keep S w w') (hb : ¬ S b) (h : w.rangeAt b o l) : w'.rangeAt b o l := fun j v hj => k.cell (h j v hj) hb
/-- the last cell of eight written anew -/
theorem range_kids {w : World} {b : Nat} {r : Raw} (h : w.rangeAt b 0 (ER.cells r)) (A : Option Addr) (n c : Nat) : (w.setCell ⟨b, 7, none⟩ (.slice A n c)).rangeAt b 0 (ER.cells { r with kA := A, kL := n, kC := c }) := by
  obtain ⟨h0, h1, h2, h3, h4, h5, h6, h7⟩ := cells_val h
  intro j v hj
  match j, hj with
  | 0, hj => simp only [ER] at hj; simp at hj; subst hj; rw [Nat.zero_add, World.cell?_setCell_other _ _ _ _ (by simp)]; exact h0
  | 1, hj => simp only [ER] at hj; simp at hj; subst hj; rw [Nat.zero_add, World.cell?_setCell_other _ _ _ _ (by simp)]; exact h1
  | 2, hj => simp only [ER] at hj; simp at hj; subst hj; rw [Nat.zero_add, World.cell?_setCell_other _ _ _ _ (by simp)]; exact h2
  | 3, hj => simp only [ER] at hj; simp at hj; subst hj; rw [Nat.zero_add, World.cell?_setCell_other _ _ _ _ (by simp)]; exact h3
  | 4, hj => simp only [ER] at hj; simp at hj; subst hj; rw [Nat.zero_add, World.cell?_setCell_other _ _ _ _ (by simp)]; exact h4
  | 5, hj => simp only [ER] at hj; simp at hj; subst hj; rw [Nat.zero_add, World.cell?_setCell_other _ _ _ _ (by simp)]; exact h5
  | 6, hj => simp only [ER] at hj; simp at hj; subst hj; rw [Nat.zero_add, World.cell?_setCell_other _ _ _ _ (by simp)]; exact h6
  | 7, hj => simp only [ER] at hj; simp at hj; subst hj; rw [Nat.zero_add]; exact World.cell?_setCell_same _ _ _ h7
  | j + 8, hj => simp [ER] at hj
/-- what is known of a container's values while it grows: its cells in block b7, its values' trees -/
structure Grow (wr : World) (b7 m kind : Nat) (A : Option Addr) (c : Nat) (rs : List Raw) (acc : List V) : Prop where
  ow : Ow ER wr A c rs
  at_ : ∀ a, A = some a → m ≤ a.block
  lt : ∀ a, A = some a → a.block < wr.heap.size
  tr : TrL wr (Del m A) rs acc
  ce : wr.rangeAt b7 0 (ER.cells ⟨kind, 0, false, none, 0, 0, 0, 0, ⟨#[]⟩, A, rs.length, c⟩)
  th : wr.there b7 0 8
theorem Grow.keep {wr w' : World} {b7 m kind : Nat} {A : Option Addr} {c : Nat} {rs : List Raw} {acc : List V} {S : Nat → Prop} (h : Grow wr b7 m kind A c rs acc) (k : Keep S wr w') (hm : ∀ j, S j → j < m) (h7 : ¬ S b7) : Grow w' b7 m kind A c rs acc :=
  ⟨h.ow.keep k (fun ⟨a, ha, hS⟩ => by have := hm _ hS; have := h.at_ a ha; omega), h.at_, fun a ha => Nat.lt_of_lt_of_le (h.lt a ha) k.size, TrL.keep k (fun j hj hS => by have := hm _ hS; have := hj.1; omega) _ _ h.tr, range_keepS k h7 h.ce, k.there h.th h7⟩
/-- one value more behind the others -/
theorem Grow.push {w5 w6 : World} {b7 m kind : Nat} {A A' : Option Addr} {c c' n : Nat} {rs : List Raw} {acc : List V} {r : Raw} {v : V} (h : Grow w5 b7 m kind A c rs acc) (hap : Appended ER w5 A (rs ++ [r]) A' c' w6) (h7 : b7 < m) (hm : m ≤ w5.heap.size)
    (ht : Tr w5 (fun j => n ≤ j) r v) (hn : m ≤ n) (hA : ∀ a, A = some a → a.block < n) : Grow (w6.setCell ⟨b7, 7, none⟩ (.slice A' (rs.length + 1) c')) b7 m kind A' c' (rs ++ [r]) (acc ++ [v]) ∧ Keep (fun k => AtB A k ∨ k = b7) w5 (w6.setCell ⟨b7, 7, none⟩ (.slice A' (rs.length + 1) c')) := by
  have hA' : ∀ a, A' = some a → m ≤ a.block := fun a ha => by
    rcases hap.lies a ha with ⟨a0, h0, h1⟩ | ⟨h1, _⟩
    · have := h.at_ a0 h0; omega
    · omega
  have hk : Keep (· = b7) w6 (w6.setCell ⟨b7, 7, none⟩ (.slice A' (rs.length + 1) c')) := (Keep.refl (· = b7) w6).setCell (fun _ => rfl) _
  have h7A : ¬ AtB A b7 := fun ⟨a, ha, hb⟩ => by have := h.at_ a ha; omega
  have h7A' : ¬ AtB A' b7 := fun ⟨a, ha, hb⟩ => by have := hA' a ha; omega
  have hdel : ∀ j, j < w5.heap.size → Del m A j → ¬ AtB A j ∧ Del m A' j := fun j hj hd => ⟨hd.2, hd.1, fun ⟨a, ha, hb⟩ => by
    rcases hap.lies a ha with ⟨a0, h0, h1⟩ | ⟨h1, _⟩
    · exact hd.2 ⟨a0, h0, by omega⟩
    · omega⟩
  have t1 : TrL w5 (fun j => ¬ AtB A j ∧ Del m A' j) rs acc := TrL.mono hdel _ _ h.tr
  have t2 : Tr w5 (fun j => ¬ AtB A j ∧ Del m A' j) r v := Tr.mono (fun j hj hd => hdel j hj ⟨by omega, fun ⟨a, ha, hb⟩ => by have := hA a ha; omega⟩) _ _ ht
  have t3 : TrL w6 (fun j => Del m A' j) (rs ++ [r]) (acc ++ [v]) := TrL.mono (fun _ _ hd => hd.2) _ _ (TrL.keep hap.keep (fun j hd => hd.1) _ _ (TrL.app t1 ⟨t2, trivial⟩))
  have hce : w6.rangeAt b7 0 (ER.cells ⟨kind, 0, false, none, 0, 0, 0, 0, ⟨#[]⟩, A, rs.length, c⟩) := range_keepS hap.keep h7A h.ce
  refine ⟨⟨hap.ow.keep hk (fun ⟨a, ha, hb⟩ => h7A' ⟨a, ha, hb⟩), hA', fun a ha => ?_, TrL.keep hk (fun j hd e => by have := hd.1; omega) _ _ t3, ?_, ?_⟩, ?_⟩
  · rcases hap.lies a ha with ⟨a0, h0, h1⟩ | ⟨h1, h2⟩
    · have := h.lt a0 h0; have := hap.keep.size; have := hk.size; omega
    · have := hk.size; omega
  · have := range_kids hce A' (rs.length + 1) c'
    rw [List.length_append, List.length_singleton]
    exact this
  · exact World.there_setCells (hap.keep.there h.th h7A) b7 7 [.slice A' (rs.length + 1) c']
  · exact (hap.keep.mono (fun _ _ h => .inl h)).trans hk (fun j _ e => .inr e)
end Go.Proofs.YticnefkdkkjgcaaGreatDoor

/- packread's family of lists: the walk. -/
namespace Go.Proofs.YticnefkdkkjgcaaGreatDoor
open Go.RowKit

end Go.Proofs.YticnefkdkkjgcaaGreatDoor

/- packread's family of maps: what grows; too deep. -/
namespace Go.Proofs.YticnefkdkkjgcaaGreatDoor
open Go.RowKit

/-- a key and a value put into their place -/
theorem Grow.ins {w8 w9 w12 : World} {b7 m kind : Nat} {A A' : Option Addr} {c c' n mm : Nat} {rs : List Raw} {acc : List V} {rk rx : Raw} {vk vx : V} (h : Grow w8 b7 m kind A c rs acc) (hap : Appended ER w8 A (rs ++ [rk, rx]) A' c' w9) (h7 : b7 < m) (hm : m ≤ w8.heap.size)
    (htk : Tr w8 (fun j => n ≤ j) rk vk) (htx : Tr w8 (fun j => n ≤ j) rx vx) (hn : m ≤ n) (hA : ∀ a, A = some a → a.block < n)
    (k12 : Keep (fun k => AtB A' k ∨ k = b7) w9 w12) (ho : Ow ER w12 A' c' (rs.take (2 * mm) ++ rk :: rx :: rs.drop (2 * mm)))
    (hce : w12.rangeAt b7 0 (ER.cells ⟨kind, 0, false, none, 0, 0, 0, 0, ⟨#[]⟩, A', rs.length + 2, c'⟩)) (hth : w12.there b7 0 8) :
    Grow w12 b7 m kind A' c' (rs.take (2 * mm) ++ rk :: rx :: rs.drop (2 * mm)) (insN acc mm vk vx) ∧ Keep (fun k => AtB A k ∨ k = b7 ∨ w8.heap.size ≤ k) w8 w12 := by
  have hA' : ∀ a, A' = some a → m ≤ a.block := fun a ha => by
    rcases hap.lies a ha with ⟨a0, h0, h1⟩ | ⟨h1, _⟩
    · have := h.at_ a0 h0; omega
    · omega
  have hdel : ∀ j, j < w8.heap.size → Del m A j → ¬ AtB A j ∧ Del m A' j := fun j hj hd => ⟨hd.2, hd.1, fun ⟨a, ha, hb⟩ => by
    rcases hap.lies a ha with ⟨a0, h0, h1⟩ | ⟨h1, _⟩
    · exact hd.2 ⟨a0, h0, by omega⟩
    · omega⟩
  have t1 : TrL w8 (fun j => ¬ AtB A j ∧ Del m A' j) rs acc := TrL.mono hdel _ _ h.tr
  have tk : Tr w8 (fun j => ¬ AtB A j ∧ Del m A' j) rk vk := Tr.mono (fun j hj hd => hdel j hj ⟨by omega, fun ⟨a, ha, hb⟩ => by have := hA a ha; omega⟩) _ _ htk
  have tx : Tr w8 (fun j => ¬ AtB A j ∧ Del m A' j) rx vx := Tr.mono (fun j hj hd => hdel j hj ⟨by omega, fun ⟨a, ha, hb⟩ => by have := hA a ha; omega⟩) _ _ htx
  have t2 : TrL w8 (fun j => ¬ AtB A j ∧ Del m A' j) (rs.take (2 * mm) ++ rk :: rx :: rs.drop (2 * mm)) (insN acc mm vk vx) := TrL.app (t1.take _) ⟨tk, tx, t1.drop _⟩
  have t3 := TrL.mono (D' := fun j => Del m A' j) (fun _ _ hd => hd.2) _ _ (TrL.keep hap.keep (fun j hd => hd.1) _ _ t2)
  have t4 := TrL.keep k12 (fun j hd e => by
    rcases e with e | e
    · exact hd.2 e
    · have := hd.1; omega) _ _ t3
  have hlen : (rs.take (2 * mm) ++ rk :: rx :: rs.drop (2 * mm)).length = rs.length + 2 := by
    simp only [List.length_append, List.length_take, List.length_cons, List.length_drop]
    omega
  refine ⟨⟨ho, hA', fun a ha => ?_, t4, ?_, ?_⟩, ?_⟩
  · rcases hap.lies a ha with ⟨a0, h0, h1⟩ | ⟨h1, h2⟩
    · have := h.lt a0 h0; have := hap.keep.size; have := k12.size; omega
    · have := k12.size; omega
  · rw [hlen]; exact hce
  · exact hth
  · refine (hap.keep.mono (fun _ _ h => .inl h)).trans k12 (fun j hj e => ?_)
    rcases e with ⟨a, ha, hb⟩ | e
    · rcases hap.lies a ha with ⟨a0, h0, h1⟩ | ⟨h1, _⟩
      · exact .inl ⟨a0, h0, by omega⟩
      · exact .inr (.inr (by omega))
    · exact .inr (.inl e)
end Go.Proofs.YticnefkdkkjgcaaGreatDoor

/- A list that grows in its middle: what moves, what is put in. -/
namespace Go.Proofs.YticnefkdkkjgcaaGreatDoor
open Go.RowKit

theorem sizeValue : (Tryz.prog.info? 39).map (·.size) = some ER.sz := by kernel_rfl
/-- a slice's two new elements -/
theorem two_sl (w : World) (r r2 : Raw) (T : TypeId) : Sl ER (w.alloc (.cells (ER.cells r ++ ER.cells r2).toArray T)) (some ⟨w.heap.size, 0, none⟩) 2 [r, r2] :=
  ⟨Nat.le_refl _, by decide, fun _ => ⟨_, _, rfl, range_alloc_new w _ T _ (fun j v hj => by simpa [El.flat_cons, El.flat_nil] using hj)⟩⟩
theorem sixteen {W : World} {b p : Nat} (h : W.there b p 16) : ∃ v0 v1 v2 v3 v4 v5 v6 v7 v8 v9 v10 v11 v12 v13 v14 v15, (W.cell? ⟨b, p, none⟩ = some v0 ∧ W.cell? ⟨b, p + 1, none⟩ = some v1 ∧ W.cell? ⟨b, p + 2, none⟩ = some v2 ∧ W.cell? ⟨b, p + 3, none⟩ = some v3 ∧ W.cell? ⟨b, p + 4, none⟩ = some v4 ∧ W.cell? ⟨b, p + 5, none⟩ = some v5 ∧ W.cell? ⟨b, p + 6, none⟩ = some v6 ∧ W.cell? ⟨b, p + 7, none⟩ = some v7 ∧ W.cell? ⟨b, p + 8, none⟩ = some v8 ∧ W.cell? ⟨b, p + 9, none⟩ = some v9 ∧ W.cell? ⟨b, p + 10, none⟩ = some v10 ∧ W.cell? ⟨b, p + 11, none⟩ = some v11 ∧ W.cell? ⟨b, p + 12, none⟩ = some v12 ∧ W.cell? ⟨b, p + 13, none⟩ = some v13 ∧ W.cell? ⟨b, p + 14, none⟩ = some v14 ∧ W.cell? ⟨b, p + 15, none⟩ = some v15) ∧ W.frozen? ⟨b, p, none⟩ = false ∧ W.frozen? ⟨b, p + 1, none⟩ = false ∧ W.frozen? ⟨b, p + 2, none⟩ = false ∧ W.frozen? ⟨b, p + 3, none⟩ = false ∧ W.frozen? ⟨b, p + 4, none⟩ = false ∧ W.frozen? ⟨b, p + 5, none⟩ = false ∧ W.frozen? ⟨b, p + 6, none⟩ = false ∧ W.frozen? ⟨b, p + 7, none⟩ = false ∧ W.frozen? ⟨b, p + 8, none⟩ = false ∧ W.frozen? ⟨b, p + 9, none⟩ = false ∧ W.frozen? ⟨b, p + 10, none⟩ = false ∧ W.frozen? ⟨b, p + 11, none⟩ = false ∧ W.frozen? ⟨b, p + 12, none⟩ = false ∧ W.frozen? ⟨b, p + 13, none⟩ = false ∧ W.frozen? ⟨b, p + 14, none⟩ = false ∧ W.frozen? ⟨b, p + 15, none⟩ = false := by
  have c : ∀ j, j < 16 → ∃ v, W.cell? ⟨b, p + j, none⟩ = some v := fun j hj => by
    have := (h j hj).1
    exact Option.isSome_iff_exists.1 this
  obtain ⟨v0, h0⟩ := c 0 (by decide)
  obtain ⟨v1, h1⟩ := c 1 (by decide)
  obtain ⟨v2, h2⟩ := c 2 (by decide)
  obtain ⟨v3, h3⟩ := c 3 (by decide)
  obtain ⟨v4, h4⟩ := c 4 (by decide)
  obtain ⟨v5, h5⟩ := c 5 (by decide)
  obtain ⟨v6, h6⟩ := c 6 (by decide)
  obtain ⟨v7, h7⟩ := c 7 (by decide)
  obtain ⟨v8, h8⟩ := c 8 (by decide)
  obtain ⟨v9, h9⟩ := c 9 (by decide)
  obtain ⟨v10, h10⟩ := c 10 (by decide)
  obtain ⟨v11, h11⟩ := c 11 (by decide)
  obtain ⟨v12, h12⟩ := c 12 (by decide)
  obtain ⟨v13, h13⟩ := c 13 (by decide)
  obtain ⟨v14, h14⟩ := c 14 (by decide)
  obtain ⟨v15, h15⟩ := c 15 (by decide)
  exact ⟨v0, v1, v2, v3, v4, v5, v6, v7, v8, v9, v10, v11, v12, v13, v14, v15, ⟨h0, h1, h2, h3, h4, h5, h6, h7, h8, h9, h10, h11, h12, h13, h14, h15⟩, (h 0 (by decide)).2, (h 1 (by decide)).2, (h 2 (by decide)).2, (h 3 (by decide)).2, (h 4 (by decide)).2, (h 5 (by decide)).2, (h 6 (by decide)).2, (h 7 (by decide)).2, (h 8 (by decide)).2, (h 9 (by decide)).2, (h 10 (by decide)).2, (h 11 (by decide)).2, (h 12 (by decide)).2, (h 13 (by decide)).2, (h 14 (by decide)).2, (h 15 (by decide)).2⟩
/-- the elements from a on moved two places up -/
theorem shifted {w w' : World} {bA oA c a L : Nat} {rs : List Raw} {k x : Raw} (h : Ow ER w (some ⟨bA, oA, none⟩) c (rs ++ [k, x])) (hL : rs.length = L) (ha : a ≤ L) (h0 : L - a = 0 → w' = w)
    (h1 : ∀ b o, 0 < L - a → cutA (some ⟨bA, oA, none⟩) c (a + 2) 8 = some ⟨b, o, none⟩ → w' = w.setCells b o (ER.flat (((rs ++ [k, x]).drop a).take (L - a)))) :
    Ow ER w' (some ⟨bA, oA, none⟩) c ((rs ++ [k, x]).take (a + 2) ++ rs.drop a) ∧ Keep (· = bA) w w' := by
  have hle : L + 2 ≤ c := by have := h.sl.le; rw [List.length_append, hL] at this; exact this
  rcases Nat.eq_zero_or_pos (L - a) with hz | hz
  · have ea : a = L := by omega
    have := h0 hz
    subst this
    rw [List.take_of_length_le (by simp; omega), List.drop_eq_nil_of_le (by omega), List.append_nil]
    exact ⟨h, Keep.refl _ _⟩
  · have e1 : cutA (some ⟨bA, oA, none⟩) c (a + 2) 8 = some ⟨bA, oA + (a + 2) * 8, none⟩ := by
      unfold cutA
      rw [if_neg (by omega), Option.map_some, Addr.add_mid]
    have e2 : ((rs ++ [k, x]).drop a).take (L - a) = rs.drop a := by
      rw [List.drop_append_of_le_length (by omega), List.take_append_of_le_length (by simp; omega), List.take_of_length_le (by simp; omega)]
    have e3 := h1 _ _ hz e1
    rw [e2] at e3
    have hp := Ow.puts (i := a + 2) h (rs.drop a) (by simp; omega) (by simp)
    rw [List.drop_eq_nil_of_le (show (rs ++ [k, x]).length ≤ a + 2 + (rs.drop a).length by simp; omega), List.append_nil] at hp
    rw [e3]
    exact ⟨hp, (Keep.refl _ w).setCells _ _ (fun _ => rfl)⟩
/-- two elements put in -/
theorem placed {w : World} {bA oA c a L : Nat} {rs : List Raw} {k x : Raw} (h : Ow ER w (some ⟨bA, oA, none⟩) c ((rs ++ [k, x]).take (a + 2) ++ rs.drop a)) (hL : rs.length = L) (ha : a ≤ L) :
    Ow ER (w.setCells bA (oA + a * 8) (ER.flat [k, x])) (some ⟨bA, oA, none⟩) c (rs.take a ++ k :: x :: rs.drop a) := by
  have hl : ((rs ++ [k, x]).take (a + 2)).length = a + 2 := by simp; omega
  have hp := Ow.puts (i := a) h [k, x] (by simp; omega) (fun e => by have := congrArg List.length e; rw [List.length_append, hl] at this; simp at this)
  rw [List.take_append_of_le_length (by omega), List.take_take, Nat.min_eq_left (by omega), List.take_append_of_le_length (by omega), List.drop_append_of_le_length (by rw [hl]; simp), List.drop_eq_nil_of_le (show ((rs ++ [k, x]).take (a + 2)).length ≤ a + [k, x].length by rw [hl]; simp), List.nil_append] at hp
  exact hp
theorem two_there {w : World} {bA oA c a : Nat} {xs : List Raw} (h : Ow ER w (some ⟨bA, oA, none⟩) c xs) (ha : a + 2 ≤ c) : w.there bA (oA + a * 8) 16 := by
  obtain ⟨b', o', e', ht⟩ := h.room (by omega)
  simp only [Option.some.injEq, Addr.mk.injEq, and_true] at e'
  obtain ⟨rfl, rfl⟩ := e'
  exact there_sub ht (by omega) (by simp only [ER]; omega)
end Go.Proofs.YticnefkdkkjgcaaGreatDoor

/- packread's family of maps: the walk. -/
namespace Go.Proofs.YticnefkdkkjgcaaGreatDoor
open Go.RowKit

theorem SmL.app : ∀ {l l2 : List V} (_ : SmL l) (_ : SmL l2), SmL (l ++ l2)
  | [], _, _, h => h
  | _ :: _, _, h1, h => ⟨h1.1, SmL.app h1.2 h⟩
theorem SmL.take : ∀ {l : List V} (_ : SmL l) (n : Nat), SmL (l.take n)
  | [], _, n => by rw [List.take_nil]; trivial
  | _ :: _, _, 0 => trivial
  | _ :: _, h, n + 1 => ⟨h.1, SmL.take h.2 n⟩
theorem SmL.drop : ∀ {l : List V} (_ : SmL l) (n : Nat), SmL (l.drop n)
  | [], _, n => by rw [List.drop_nil]; trivial
  | _ :: _, h, 0 => h
  | _ :: _, h, n + 1 => SmL.drop h.2 n
theorem SmL.ins {l : List V} (h : SmL l) (m : Nat) {k x : V} (hk : Sm k) (hx : Sm x) : SmL (insN l m k x) := SmL.app (h.take _) ⟨hk, hx, h.drop _⟩
theorem insN_len (l : List V) (m : Nat) (k x : V) : (insN l m k x).length = l.length + 2 := by
  unfold insN
  simp only [List.length_append, List.length_take, List.length_cons, List.length_drop]
  omega
end Go.Proofs.YticnefkdkkjgcaaGreatDoor

/- packread's families, by name. -/
namespace Go.Proofs.YticnefkdkkjgcaaGreatDoor
open Go.RowKit

def Wd : Words := ⟨ofV 23 (-149) 8, ofV 52 (-1074) 11, wholeV, belowV, twosV, cmpV⟩
/-- what a family may be asked -/
def fits : Fam → Nat → Prop
  | .below, n => 0 < n ∧ n ≤ 256
  | .word, n => n ≤ 2
  | .single, n => n < 4294967296
  | .signed, n => 0 < n ∧ n ≤ 8
  | _, n => n < 18446744073709551616
def fitsH : Fam → Nat → Bool
  | .below, n => decide (0 < n ∧ n ≤ 256)
  | .word, n => decide (n ≤ 2)
  | .single, _ => false
  | .signed, n => decide (0 < n ∧ n ≤ 8)
  | _, n => decide (n < 18446744073709551616)
def fitsW : Fam → Nat → Bool
  | .single, k => decide (k = 4)
  | .below, _ => false
  | .word, _ => false
  | .signed, _ => false
  | _, _ => true
def fitsB (x : Option (Fam × Nat × Nat)) : Bool := match x with
  | none => true
  | some (f, n, k) => (decide (k = 0) && fitsH f n) || (decide (0 < k) && decide (k ≤ 8) && fitsW f k)
theorem pick_fitsB : (List.range 256).all (fun c => fitsB (pickN c)) = true := by kernel_rfl
theorem pick_fits {c : Nat} (h : c < 256) : fitsB (pickN c) = true := List.all_eq_true.1 pick_fitsB c (List.mem_range.2 h)
theorem fits_here {c n k : Nat} {f : Fam} (h : c < 256) (hp : pickN c = some (f, n, k)) : k ≤ 8 ∧ (k = 0 → fits f n) := by
  have h1 := pick_fits h
  rw [hp] at h1
  simp only [fitsB, Bool.or_eq_true, Bool.and_eq_true, decide_eq_true_eq] at h1
  refine ⟨by omega, fun hk => ?_⟩
  have h2 : fitsH f n = true := by
    rcases h1 with h1 | h1
    · exact h1.2
    · omega
  cases f <;> simp only [fitsH, fits, decide_eq_true_eq] at h2 ⊢ <;> first | exact h2 | cases h2
theorem beN_fold : ∀ (l : List Nat) (x : Nat), (∀ y ∈ l, y < 256) → l.foldl (fun x b => x * 256 + b) x < (x + 1) * 256 ^ l.length
  | [], x, _ => by simp
  | y :: l, x, h => by
    have h1 := beN_fold l (x * 256 + y) (fun z hz => h z (by simp [hz]))
    have h2 := h y (by simp)
    refine Nat.lt_of_lt_of_le h1 ?_
    rw [List.length_cons, Nat.pow_succ, Nat.mul_comm (256 ^ l.length) 256, ← Nat.mul_assoc]
    exact Nat.mul_le_mul_right _ (by omega)
theorem bl_lt (t : ByteArray) : ∀ y ∈ bl t, y < 256 := fun y hy => by
  unfold bl at hy
  obtain ⟨u, _, rfl⟩ := List.mem_map.1 hy
  exact UInt8.toNat_lt u
theorem beN_lt (t : ByteArray) : beN (bl t) < 256 ^ t.size := by
  have := beN_fold (bl t) 0 (bl_lt t)
  rw [bl_len] at this
  simpa [beN] using this
theorem fits_read {c n k : Nat} {f : Fam} (h : c < 256) (hp : pickN c = some (f, n, k)) (hk : k ≠ 0) {t : ByteArray} (ht : t.size = k) : fits f (beN (bl t)) := by
  have h1 := pick_fits h
  rw [hp] at h1
  have h2 := beN_lt t
  rw [ht] at h2
  simp only [fitsB, Bool.or_eq_true, Bool.and_eq_true, decide_eq_true_eq] at h1
  have h5 : k ≤ 8 := by omega
  have h6 : fitsW f k = true := by
    rcases h1 with h1 | h1
    · exact absurd h1.1 hk
    · exact h1.2
  have h3 : 256 ^ k ≤ 256 ^ 8 := Nat.pow_le_pow_right (by decide) h5
  have h4 : beN (bl t) < 18446744073709551616 := Nat.lt_of_lt_of_le h2 h3
  cases f <;> simp only [fitsW, fits, decide_eq_true_eq] at h6 ⊢ <;> first | exact h4 | cases h6
  exact h2
theorem quiet_fam {sa : Nat → Addr} {b p fr op k : Nat} {s : ByteArray} {w : World} {args : Array Value} {v : V} (hr : Rd w b s p fr op)
    (h : Calls Tryz.prog k args w fun e w' => Keep nob w w' ∧ ∃ r, e = .returned (.tuple #[ER.val r, .nilIface]) ∧ Tr w' (fun k => w.heap.size ≤ k) r v) : Calls Tryz.prog k args w (FamPost sa b s op w (.ok v p)) :=
  h.mono (fun _ _ ⟨k, r, he, ht⟩ => ⟨k.mono (fun _ _ h => h.elim), ⟨_, hr.keep k (fun h => h)⟩, r, he, ht⟩)
end Go.Proofs.YticnefkdkkjgcaaGreatDoor

/- packread's items: the walk. -/
namespace Go.Proofs.YticnefkdkkjgcaaGreatDoor
open Go.RowKit

end Go.Proofs.YticnefkdkkjgcaaGreatDoor

/- What is read is of a size that memory has; items at any depth. -/
namespace Go.Proofs.YticnefkdkkjgcaaGreatDoor
open Go.RowKit

theorem sm_mk {k n : Nat} {neg : Bool} {mag : List Nat} {bits : Nat} {ext : Int} {text : ByteArray} {kids : List V} (h1 : mag.length ≤ 1000000000) (h2 : kids.length ≤ 1000000000) (h3 : bits < 18446744073709551616) (h4 : SmL kids) : Sm (.mk k n neg mag bits ext text kids) := by
  unfold Sm
  exact ⟨h1, h2, h3, h4⟩
theorem smL_nil : SmL [] := by
  unfold SmL
  trivial
theorem sm_int {neg : Bool} {mag : List Nat} (h : mag.length ≤ 1000000000) : Sm (V.int neg mag) := sm_mk h (Nat.zero_le _) (by decide) smL_nil
theorem sm_flat {k n : Nat} {neg : Bool} {bits : Nat} {ext : Int} {text : ByteArray} (h : bits < 18446744073709551616) : Sm (.mk k n neg [] bits ext text []) := sm_mk (Nat.zero_le _) (Nat.zero_le _) h smL_nil
theorem cutL_le (l : List Nat) : (cutL l).length ≤ l.length := by rw [cutL_len]; exact cutN_le _ _
theorem ofV_sm {F X x : Nat} {L : Int} (hF : F ≤ 52) (hL : -1074 ≤ L) (hX : 2 ^ X ≤ 2048) (hL0 : L ≤ 0) (hE : L + ((2 ^ X : Nat) : Int) ≤ 1000) : Sm (ofV F L X x) := by
  unfold ofV intN to64N
  cases hp : partsN F L X x with
  | none =>
    dsimp only
    refine sm_flat ?_
    split
    · unfold signed64N; split <;> decide
    · decide
  | some y =>
    obtain ⟨neg, m, e⟩ := y
    obtain ⟨h1, h2, h3⟩ := parts_bd hF hL hX hL0 hE hp
    dsimp only
    by_cases he : e < 0
    · rw [if_pos he]
      exact sm_flat (exact64_lt h1 h2)
    · rw [if_neg he]
      obtain ⟨K, hK⟩ : ∃ K : Nat, K = 1100 := ⟨_, rfl⟩
      obtain ⟨f, hf⟩ : ∃ f : Nat, f = 37 := ⟨_, rfl⟩
      refine sm_int (Nat.le_trans (numL_len_le (f := f) ?_) (by omega))
      have h4 : 2 ^ e.toNat ≤ 2 ^ K := Nat.pow_le_pow_right (by decide) (by omega)
      have h5 : m * 2 ^ e.toNat ≤ 2 ^ 53 * 2 ^ K := Nat.mul_le_mul (by omega) h4
      rw [← Nat.pow_add] at h5
      rw [show (4294967296 : Nat) = 2 ^ 32 by decide, ← Nat.pow_mul]
      exact Nat.lt_of_le_of_lt h5 (Nat.pow_lt_pow_right (by decide) (by omega))
theorem two_sm (x : Nat) : (cutL (cutL (two32 x))).length ≤ 1000000000 := Nat.le_trans (cutL_le _) (Nat.le_trans (cutL_le _) (by simp [two32]))
theorem twos_sm (t : ByteArray) (h : t.size ≤ 1000000000) : Sm (twosV t) := by
  refine sm_int (Nat.le_trans (cutL_le _) (Nat.le_trans (cutL_le _) ?_))
  rw [twoL, limbG_len, List.length_replicate]
  omega
/-- what a reading of items is known to do -/
def Does (s : ByteArray) (it : Nat → R V) : Prop := ∀ p v q, p ≤ s.size → it p = .ok v q → (p < q ∧ q ≤ s.size) ∧ Sm v
theorem rounds_sm {s : ByteArray} {it : Nat → R V} (hg : Does s it) : ∀ (n p : Nat) (acc l : List V) (q : Nat), p ≤ s.size → acc.length ≤ p → SmL acc → roundsN it n p acc = .ok l q → l.length ≤ s.size ∧ SmL l
  | 0, p, acc, l, q, hp, ha, hs, h => by
    rw [roundsN] at h
    cases h
    exact ⟨by omega, hs⟩
  | n + 1, p, acc, l, q, hp, ha, hs, h => by
    rw [roundsN] at h
    cases hi : it p with
    | bad c x => rw [hi] at h; cases h
    | ok v x =>
      rw [hi] at h
      obtain ⟨⟨h1, h2⟩, h3⟩ := hg p v x hp hi
      exact rounds_sm hg n x (acc ++ [v]) l q h2 (by rw [List.length_append, List.length_singleton]; omega) (SmL.app hs ⟨h3, smL_nil⟩) h
theorem pairs_sm {s : ByteArray} {it : Nat → R V} (hg : Does s it) : ∀ (n p : Nat) (acc l : List V) (q : Nat), p ≤ s.size → acc.length ≤ p → SmL acc → pairsN Wd it n p acc = .ok l q → l.length ≤ s.size ∧ SmL l
  | 0, p, acc, l, q, hp, ha, hs, h => by
    rw [pairsN] at h
    cases h
    exact ⟨by omega, hs⟩
  | n + 1, p, acc, l, q, hp, ha, hs, h => by
    rw [pairsN] at h
    cases hi : it p with
    | bad c x => rw [hi] at h; cases h
    | ok key x =>
      rw [hi] at h
      obtain ⟨⟨h1, h2⟩, h3⟩ := hg p key x hp hi
      dsimp only [R.bind] at h
      split at h
      · cases h
      · cases hi2 : it x with
        | bad c y => rw [hi2] at h; cases h
        | ok v y =>
          rw [hi2] at h
          obtain ⟨⟨h4, h5⟩, h6⟩ := hg x v y h2 hi2
          exact pairs_sm hg n y _ l q h5 (by rw [insN_len]; omega) (SmL.ins hs _ h3 h6) h
theorem fam_sm {s : ByteArray} (hs : s.size ≤ 1000000000) {inner : Option (Nat → R V)} (hg : ∀ it, inner = some it → Does s it) (fr : Nat) (f : Fam) (n p : Nat) (hp : p ≤ s.size) {v : V} {q : Nat} (h : famR Wd s inner fr f n p = .ok v q) : Sm v := by
  cases f <;> simp only [famR] at h
  case whole => cases h; exact sm_int (two_sm n)
  case below => cases h; exact sm_int (two_sm n)
  case word =>
    split at h <;> cases h <;> exact sm_flat (by decide)
  case single => cases h; exact ofV_sm (by decide) (by decide) (by decide) (by decide) (by decide)
  case double => cases h; exact ofV_sm (by decide) (by decide) (by decide) (by decide) (by decide)
  case text =>
    cases ht : textR s p n with
    | ok t x => rw [ht] at h; cases h; exact sm_flat (by decide)
    | bad c x => rw [ht] at h; cases h
  case bytes =>
    cases ht : takeR s p n with
    | ok t x => rw [ht] at h; cases h; exact sm_flat (by decide)
    | bad c x => rw [ht] at h; cases h
  case ext =>
    cases ht : takeR s p 1 with
    | bad c x => rw [ht] at h; cases h
    | ok e x =>
      rw [ht] at h
      dsimp only [R.bind] at h
      cases ht2 : takeR s x n with
      | ok t y => rw [ht2] at h; cases h; exact sm_flat (by decide)
      | bad c y => rw [ht2] at h; cases h
  case signed =>
    cases ht : takeR s p n with
    | ok t x =>
      rw [ht] at h
      cases h
      obtain ⟨e, _, _⟩ := take_size ht
      exact twos_sm t (by rw [e, ByteArray.size_extract]; omega)
    | bad c x => rw [ht] at h; cases h
  case list =>
    cases inner with
    | none => cases h
    | some it =>
      dsimp only at h
      cases hr : roundsN it n p [] with
      | bad c x => rw [hr] at h; cases h
      | ok l x =>
        rw [hr] at h
        cases h
        obtain ⟨h1, h2⟩ := rounds_sm (hg it rfl) n p [] l q hp (Nat.zero_le _) smL_nil hr
        exact sm_mk (Nat.zero_le _) (by omega) (by decide) h2
  case pairs =>
    cases inner with
    | none => cases h
    | some it =>
      dsimp only at h
      cases hr : pairsN Wd it n p [] with
      | bad c x => rw [hr] at h; cases h
      | ok l x =>
        rw [hr] at h
        cases h
        obtain ⟨h1, h2⟩ := pairs_sm (hg it rfl) n p [] l q hp (Nat.zero_le _) smL_nil hr
        exact sm_mk (Nat.zero_le _) (by omega) (by decide) h2
theorem itemF_sm {s : ByteArray} (hs : s.size ≤ 1000000000) {inner : Option (Nat → R V)} (hg : ∀ it, inner = some it → Does s it) {p : Nat} (hp : p ≤ s.size) {v : V} {q : Nat} (h : itemF Wd s inner p = .ok v q) : Sm v := by
  unfold itemF at h
  cases ht : takeR s p 1 with
  | bad c x => rw [ht] at h; cases h
  | ok t p1 =>
    rw [ht] at h
    dsimp only [R.bind] at h
    obtain ⟨_, _, h1⟩ := take_size ht
    have h1 := h1 hp
    cases hk : pickN ((bl t).headD 0) with
    | none => rw [hk] at h; cases h
    | some y =>
      obtain ⟨f, n, k⟩ := y
      rw [hk] at h
      dsimp only at h
      split at h
      · exact fam_sm hs hg p f n p1 h1 h
      · cases ht2 : takeR s p1 k with
        | bad c x => rw [ht2] at h; cases h
        | ok t2 p2 =>
          rw [ht2] at h
          obtain ⟨_, _, h2⟩ := take_size ht2
          exact fam_sm hs hg p f _ p2 (h2 h1) h
theorem item_does {s : ByteArray} (hs : s.size ≤ 1000000000) : ∀ d, Does s (itemN Wd s d)
  | 0 => fun p v q hp h => by
    have h1 := itemN_ge Wd s 0 p
    have h2 := itemN_le Wd s 0 p hp
    rw [h] at h1 h2
    exact ⟨⟨h1, h2⟩, itemF_sm (inner := none) hs (fun _ e => by cases e) hp h⟩
  | d + 1 => fun p v q hp h => by
    have h1 := itemN_ge Wd s (d + 1) p
    have h2 := itemN_le Wd s (d + 1) p hp
    rw [h] at h1 h2
    exact ⟨⟨h1, h2⟩, itemF_sm (inner := some (itemN Wd s d)) hs (fun it e => by cases e; exact item_does hs d) hp h⟩
end Go.Proofs.YticnefkdkkjgcaaGreatDoor

/- packread.Next at 0, Read. -/
namespace Go.Proofs.YticnefkdkkjgcaaGreatDoor
open Go.RowKit

theorem ret_vtt {fn : Func} {p u u2 : Tmp} {R : Ending → World → Prop} {a : Act} {w : World} {b : Nat} {r : Raw} {v v2 : Value} (h : fn.results = #[.cell p 39, .tmp u, .tmp u2]) (hp : a.tmps.getD p undef = .pointer (some ⟨b, 0, none⟩)) (hv : a.tmps.getD u undef = v) (hv2 : a.tmps.getD u2 undef = v2) (hd : a.defers = [])
    (hr : w.rangeAt b 0 (ER.cells r)) (hR : R (.returned (.tuple #[ER.val r, v, v2])) w) : bodyPost Tryz.prog fn R .ret a w := by
  refine bodyPost_ret (v := .tuple #[ER.val r, v, v2]) ?_ hd hR
  have hl := load_val hr
  have hp' : a.tmps[p]?.getD undef = .pointer (some ⟨b, 0, none⟩) := by rw [← hp]; simp
  have hv' : a.tmps[u]?.getD undef = v := by rw [← hv]; simp
  have hv2' : a.tmps[u2]?.getD undef = v2 := by rw [← hv2]; simp
  simp [results, h, hp', hv', hv2', asAddr, hl]
/-- what Next answers -/
def NextPost (sa : Nat → Addr) (w : World) (x : R V) (e : Ending) (w' : World) : Prop := match x with
  | .ok v q => Keep nob w w' ∧ ∃ r, e = .returned (.tuple #[ER.val r, .int .i64 (q : Int), .nilIface]) ∧ Tr w' (fun k => w.heap.size ≤ k) r v
  | .bad c q => ∃ ev, e = .returned (.tuple #[ER.val Raw.zero, .int .i64 0, ev]) ∧ Keep nob w w' ∧ FErr sa w' (fun k => w.heap.size ≤ k) ev c q
theorem rd_new (w : World) (s : ByteArray) (p : Nat) (T : TypeId) : Rd (w.alloc (.cells #[.string s, .int .i64 (p : Int), .int .i64 0, .int .i64 0] T)) w.heap.size s p 0 0 :=
  ⟨by simp, by simp, by simp, by simp, fun i _ => by simp⟩
/-- what Read answers -/
def ReadPost (sa : Nat → Addr) (w : World) (x : R V) (e : Ending) (w' : World) : Prop := match x with
  | .ok v _ => Keep nob w w' ∧ ∃ r, e = .returned (.tuple #[ER.val r, .nilIface]) ∧ Tr w' (fun k => w.heap.size ≤ k) r v
  | .bad c q => ∃ ev, e = .returned (.tuple #[ER.val Raw.zero, ev]) ∧ Keep nob w w' ∧ FErr sa w' (fun k => w.heap.size ≤ k) ev c q
end Go.Proofs.YticnefkdkkjgcaaGreatDoor
