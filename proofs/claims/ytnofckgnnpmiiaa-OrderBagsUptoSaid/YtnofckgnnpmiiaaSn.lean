/- 'same' of two equal lists; 'lend'; 'left'. -/
import Derived.Test.YtnofckgnnpmiiaaSm
namespace Go.Proofs.Ytnofckgnnpmiiaa
open Go.RowKit Go.Shelf
attribute [local go_sem ↓] Go.wp_at_zero Go.wp_at_succ

theorem Ow.app {α : Type} {E : El α} {w : World} {b o c : Nat} {xs ys : List α} (hx : Ow E w (some ⟨b, o, none⟩) c xs) (hroom : xs.length + ys.length ≤ c) :
    Ow E (w.setCells b (o + xs.length * E.sz) (E.flat ys)) (some ⟨b, o, none⟩) c (xs ++ ys) := by
  by_cases hc : 0 < c
  · obtain ⟨b', o', e', hth⟩ := hx.room hc
    simp only [Option.some.injEq, Addr.mk.injEq, and_true] at e'
    obtain ⟨rfl, rfl⟩ := e'
    have hthn : w.there b (o + xs.length * E.sz) (ys.length * E.sz) := there_sub hth (by omega) (by rw [Nat.add_assoc, ← Nat.add_mul]; exact Nat.add_le_add_left (Nat.mul_le_mul_right _ hroom) _)
    refine ⟨⟨by rw [List.length_append]; exact hroom, hx.sl.cap, fun _ => ⟨b, o, rfl, ?_⟩⟩, fun _ => ⟨b, o, rfl, World.there_setCells hth _ _ _⟩⟩
    rw [E.flat_app, range_app, E.flat_len]
    refine ⟨?_, World.rangeAt_setCells_same _ _ _ _ (by rw [E.flat_len]; exact hthn)⟩
    by_cases hn : xs = []
    · subst hn; exact range_nil _ _ _
    · obtain ⟨b', o', hA, hr⟩ := hx.sl.at_ hn
      simp only [Option.some.injEq, Addr.mk.injEq, and_true] at hA
      obtain ⟨rfl, rfl⟩ := hA
      exact World.rangeAt_setCells_apart hr _ _ _ (.inr (.inl (by rw [E.flat_len]; omega)))
  · have hx0 : xs = [] := List.eq_nil_of_length_eq_zero (by omega)
    have hy0 : ys = [] := List.eq_nil_of_length_eq_zero (by omega)
    subst hx0; subst hy0
    exact ⟨Sl.nil_ E _ _ hx.sl.cap, fun h => absurd h hc⟩
theorem Ow.at0 {α : Type} {E : El α} {w : World} {b o c : Nat} {xs : List α} (h : Ow E w (some ⟨b, o, none⟩) c xs) (hx : xs ≠ []) : w.rangeAt b o (E.flat xs) := by
  obtain ⟨b', o', hA, hr⟩ := h.sl.at_ hx
  simp only [Option.some.injEq, Addr.mk.injEq, and_true] at hA
  obtain ⟨rfl, rfl⟩ := hA
  exact hr

set_option maxRecDepth 100000 in
set_option maxHeartbeats 8000000 in
theorem same_ok (A A2 : Option Addr) (c c2 L : Nat) (xs : List Item) (w : World) (hL : xs.length = L) (h : Sl EI w A c xs) (h2 : Sl EI w A2 c2 xs) (hl : L ≤ 1000000000) : Calls Try.prog 17 #[.slice A L c, .slice A2 L c2] w
    (fun e w' => e = .returned (.bool true) ∧ Keep nob w w') := by
  have H := Lib.hid h
  have H2 := Lib.hid h2
  have HL := Lib.hid hL
  have hlc := h.le
  rw [hL] at hlc
  have hcc := h.cap
  have hlc2 := h2.le
  rw [hL] at hlc2
  have hcc2 := h2.cap
  clear h h2 hL
  go_enter Try.func17, Try.ntmps17
  go_wp2_with (fail)
  go_loopw [5] (fun u5 wr => ∃ i : Nat, i ≤ L ∧ u5 = .int .i64 (i : Int) ∧ Hid (Keep nob w wr)) (fun u5 _ => ((L : Int) - intOf u5).toNat)
  case atStart => exact ⟨0, Nat.zero_le _, rfl, Keep.refl _ w⟩
  case round =>
    obtain ⟨i, hi, rfl, HKr⟩ := hrel
    have hLb : (L : Int) ≤ 1000000000 := by omega
    by_cases hlt : i < L
    · have hi0 : (0 : Int) ≤ (i : Int) := by omega
      have hi1 : (i : Int) < (L : Int) := by omega
      obtain ⟨b1, o1, rfl, hy⟩ := (H.out.keep HKr.out (nobIn _)).elem (i := i) (by rw [HL.out]; exact hlt)
      obtain ⟨b2, o2, rfl, hz⟩ := (H2.out.keep HKr.out (nobIn _)).elem (i := i) (by rw [HL.out]; exact hlt)
      obtain ⟨y, HY⟩ : ∃ y, Hid (xs[i]'(by rw [HL.out]; exact hlt) = y) := ⟨_, Lib.hid rfl⟩
      rw [HY.out] at hy hz
      have hy1 := hy 0 _ rfl
      have hy2 := hy 1 _ rfl
      have hz1 := hz 0 _ rfl
      have hz2 := hz 1 _ rfl
      simp only [EI, Nat.add_zero] at hy1 hy2 hz1 hz2
      have HF : Hid (∀ w', Kept wr w' → w'.cell? ⟨b1, o1 + i * 2, none⟩ = some (.int .i64 y.1) ∧ w'.cell? ⟨b1, o1 + i * 2 + 1, none⟩ = some (.int .i64 y.2) ∧ w'.cell? ⟨b2, o2 + i * 2, none⟩ = some (.int .i64 y.1) ∧ w'.cell? ⟨b2, o2 + i * 2 + 1, none⟩ = some (.int .i64 y.2)) :=
        fun w' hk => ⟨hk.cell hy1 (fun h => h), hk.cell hy2 (fun h => h), hk.cell hz1 (fun h => h), hk.cell hz2 (fun h => h)⟩
      have hne : ∀ w, (binOp .neq 27 (.agg #[.int .i64 y.1, .int .i64 y.2]) (.agg #[.int .i64 y.1, .int .i64 y.2])).run Try.prog w = .ok (.bool false) w := fun w => by rw [run_neq_items y y w]; simp
      clear hy hz hy1 hy2 hz1 hz2 HY
      go_wp2_with (fail)
      refine wp_region_kept (by kernel_rfl) (by kernel_rfl) (QV.out ?_)
      repeat (first
        | (refine kq_skip (by rfl) (fun K hK => ?_); go_simp; refine hK _ ?_; clear hK K)
        | (refine kq_want (by rfl) (fun K hK => ?_); first
            | (refine BigFrame.quiet_move _ rfl ?_; go_simp; refine hK _ ?_; clear hK K)
            | (refine kq_still ?_ (fun w' hw' => ?_) ?_; rotate_left; (obtain ⟨c1, c2, c3, c4⟩ := HF.out w' hw'; go_simp; first | done | exact rfl); go_simp; refine hK _ ?_; clear hK K)))
      refine ⟨wpQuiet_nil ?_⟩
      intro w2 hk2
      have HK2 : Hid (Keep nob w w2) := HKr.out.then_ hk2
      clear hk2
      go_wp2_with (fail)
      go_roundw
      case rel => exact ⟨i + 1, hlt, by go_num, HK2⟩
      case measure => simp [intOf]; omega
    · have hiL : i = L := by omega
      subst hiL
      go_wp2_with (fail)
      go_ret
      exact ⟨rfl, HKr.out⟩

def mks : List Item := [(-77, -1), (-77, -2), (-77, -3), (-77, -4)]
theorem mks_take {i : Nat} (h : i < 4) : mks.take (i + 1) = mks.take i ++ [(-77, -1 - (i : Int))] := by
  match i, h with
  | 0, _ => rfl
  | 1, _ => rfl
  | 2, _ => rfl
  | 3, _ => rfl

set_option maxRecDepth 100000 in
set_option maxHeartbeats 8000000 in
theorem lend_ok (A : Option Addr) (c L : Nat) (xs : List Item) (w : World) (hL : xs.length = L) (h : Sl EI w A c xs) (hl : L ≤ 1000000000) : Calls Try.prog 12 #[.slice A L c] w
    (fun e w' => ∃ b, e = .returned (.slice (some ⟨b, 0, none⟩) L (L + 4)) ∧ w.heap.size ≤ b ∧ b < w'.heap.size ∧ Ow EI w' (some ⟨b, 0, none⟩) (L + 4) (xs ++ mks) ∧ Keep nob w w') := by
  have H := Lib.hid h
  have HL := Lib.hid hL
  have hlc := h.le
  rw [hL] at hlc
  have hcc := h.cap
  clear h hL
  have HLL := Lib.hid hl
  obtain ⟨bo, HBO⟩ : ∃ bo, Hid (w.heap.size = bo) := ⟨_, Lib.hid rfl⟩
  go_enter Try.func12, Try.ntmps12
  have HM1 : Hid (∀ w1, Hid (w1 = w.alloc (.cells (madeCells (Value.agg #[.int .i64 0, .int .i64 0]).cells ((L + 4) * EI.sz)) 27)) → Ow EI w1 (some ⟨w.heap.size, 0, none⟩) (L + 4) ([] : List Item) ∧ Keep nob w w1 ∧ w.heap.size < w1.heap.size ∧ Sl EI w1 A c xs) := by
    intro w1 HW1
    rw [HW1.out]
    have hk : Keep nob w (w.alloc (.cells (madeCells (Value.agg #[.int .i64 0, .int .i64 0]).cells ((L + 4) * EI.sz)) 27)) := (Keep.refl _ w).alloc _
    exact ⟨ow_made EI w 27 _ ((0, 0) : Item) rfl 0 (L + 4) (Nat.zero_le _) (by have := HLL.out; omega), hk, by simp, H.out.keep hk (nobIn _)⟩
  have HTH : Hid (∀ w1, Hid (w1 = w.alloc (.cells (madeCells (Value.agg #[.int .i64 0, .int .i64 0]).cells ((L + 4) * EI.sz)) 27)) → w1.there w.heap.size (0 + 0 * EI.sz) (L * EI.sz)) := by
    intro w1 HW1
    obtain ⟨b', o', e', hth⟩ := (HM1.out w1 HW1).1.room (by omega)
    simp only [Option.some.injEq, Addr.mk.injEq, and_true] at e'
    obtain ⟨e1, e2⟩ := e'
    rw [← e1, ← e2] at hth
    exact there_sub hth (by omega) (by rw [Nat.add_mul]; omega)
  go_wp2_with (first
    | (at_make; refine wpList_make_E EI rfl _ _ 22 rfl 27 _ 16 Try.underlying22 info27 0 (L + 4) _ _ rfl rfl rfl (by simp) (Nat.zero_le _) (by have := HLL.out; omega) (by have := HLL.out; omega) ?_; intro w1 HW1)
    | (at_builtin; refine wpList_append_E EI rfl _ _ 22 rfl 27 Try.underlying22 (by kernel_rfl) w.heap.size 0 0 (L + 4) rfl A L c rfl xs HL.out (HM1.out _ HW1).2.2.2 (by omega) (HTH.out _ HW1) ?_; intro w2 hw2; have HW2 := Lib.hid hw2; clear hw2))
  have HO2 : Hid (Ow EI w2 (some ⟨w.heap.size, 0, none⟩) (L + 4) xs) := by
    rw [HW2.out]
    have := (HM1.out w1 HW1).1.app (ys := xs) (by simp [HL.out])
    rw [List.nil_append] at this
    exact this
  have HK12 : Hid (Keep (fun b => b = w.heap.size) w1 w2) := by rw [HW2.out]; exact (Keep.refl (fun b => b = w.heap.size) w1).setCells _ _ (fun _ => rfl)
  have HK2 : Hid (Keep nob w w2) := (HM1.out w1 HW1).2.1.trans HK12.out (fun b h1 h2 => by have h3 : b = w.heap.size := h2; omega)
  have HB2 : Hid (w.heap.size < w2.heap.size) := Nat.lt_of_lt_of_le (HM1.out w1 HW1).2.2.1 HK12.out.size
  clear HW2 HW1 HM1 HTH HK12
  rw [HBO.out] at HO2 HB2 ⊢
  have hLb : (L : Int) ≤ 1000000000 := by omega
  go_loopw [3, 4] (fun u3 u4 wr => ∃ i : Nat, i ≤ 4 ∧ u4 = .int .i64 (i : Int) ∧ u3 = .slice (some ⟨bo, 0, none⟩) (L + i) (L + 4) ∧ Hid (Ow EI wr (some ⟨bo, 0, none⟩) (L + 4) (xs ++ mks.take i)) ∧ Hid (Keep nob w wr) ∧ Hid (bo < wr.heap.size)) (fun _ u4 _ => (4 - intOf u4).toNat)
  case atStart => exact ⟨0, Nat.zero_le _, rfl, rfl, by unfold Hid; rw [List.take_zero, List.append_nil]; exact HO2.out, HK2, HB2⟩
  case round =>
    obtain ⟨i, hi, rfl, rfl, HO, HKr, HBr⟩ := hrel
    by_cases hlt : i < 4
    · have hi1 : (i : Int) < 4 := by omega
      have hw1 : RowKit.wrap64 (-1 - (i : Int)) = -1 - (i : Int) := IntWalk.wrap64_in _ ⟨by omega, by omega⟩
      have hlen : (xs ++ mks.take i).length = L + i := by rw [List.length_append, List.length_take, HL.out]; simp [mks]; omega
      have HLN := Lib.hid hlen
      clear hlen
      obtain ⟨w3, HW3⟩ : ∃ w3, Hid (w3 = wr.alloc (.cells #[.int .i64 (-77), .int .i64 (-1 - (i : Int))] 27)) := ⟨_, Lib.hid rfl⟩
      have HK3 : Hid (Keep nob wr w3) := by rw [HW3.out]; exact (Keep.refl _ wr).alloc _
      have HO3 : Hid (Ow EI w3 (some ⟨bo, 0, none⟩) (L + 4) (xs ++ mks.take i)) := HO.out.keep HK3.out (nobIn _)
      have HS3 : Hid (Sl EI w3 (some ⟨wr.heap.size, 0, none⟩) 1 [((-77, -1 - (i : Int)) : Item)]) := by rw [HW3.out]; exact Sl.one EI wr _ _ 27 rfl
      have HT3 : Hid (w3.there bo (0 + (L + i) * EI.sz) (1 * EI.sz)) := by
        obtain ⟨b', o', e', hth⟩ := HO3.out.room (by omega)
        simp only [Option.some.injEq, Addr.mk.injEq, and_true] at e'
        obtain ⟨rfl, rfl⟩ := e'
        refine there_sub hth (by omega) ?_
        rw [Nat.zero_add, Nat.zero_add, ← Nat.add_mul]
        exact Nat.mul_le_mul_right _ (by omega)
      have HE3 := Lib.hid HW3.out.symm
      go_wp2_with (at_builtin; go_loud (rw [HE3.out]; refine wpList_append_E EI rfl _ _ 22 rfl 27 Try.underlying22 (by kernel_rfl) bo 0 (L + i) (L + 4) rfl (some ⟨wr.heap.size, 0, none⟩) 1 1 rfl [((-77, -1 - (i : Int)) : Item)] rfl HS3.out (by omega) HT3.out ?_; intro w4 hw4; have HW4 := Lib.hid hw4; clear hw4))
      have HO4 : Hid (Ow EI w4 (some ⟨bo, 0, none⟩) (L + 4) (xs ++ mks.take (i + 1))) := by
        have := HO3.out.app (ys := [((-77, -1 - (i : Int)) : Item)]) (by rw [HLN.out]; simp; omega)
        rw [HLN.out, ← HW4.out, List.append_assoc, ← mks_take hlt] at this
        exact this
      have HK34 : Hid (Keep (fun b => b = bo) w3 w4) := by rw [HW4.out]; exact (Keep.refl (fun b => b = bo) w3).setCells _ _ (fun _ => rfl)
      have HK4 : Hid (Keep nob w w4) := (HKr.out.then_ HK3.out).trans HK34.out (fun b h1 h2 => by have h3 : b = bo := h2; have := HBO.out; omega)
      have HB4 : Hid (bo < w4.heap.size) := Nat.lt_of_lt_of_le HBr.out (Nat.le_trans HK3.out.size HK34.out.size)
      clear HO3 HK34 HW4 HK3 HS3 HT3 HE3 HW3
      go_wp2_with (fail)
      go_roundw
      case rel => exact ⟨i + 1, hlt, by go_num, by rw [Nat.add_assoc], HO4, HK4, HB4⟩
      case measure => simp [intOf]; omega
    · have hi4 : i = 4 := by omega
      subst hi4
      have s1 : ∀ w, (Instr.slice 22 (.slice (some ⟨bo, 0, none⟩) (L + 4) (L + 4)) none (some (.int .i64 (L : Int))) none).run Try.prog w = .ok (.slice (some ⟨bo, 0, none⟩) L (L + 4)) w := fun w => run_slice_h w 22 27 EI.sz Try.underlying22 (by kernel_rfl) _ _ _ L _ rfl (by omega)
      go_wp2_with (fail)
      go_ret
      exact ⟨bo, rfl, Nat.le_of_eq HBO.out, HBr.out, HO.out, HKr.out⟩

set_option maxRecDepth 100000 in
set_option maxHeartbeats 8000000 in
theorem left_ok (A : Option Addr) (b c L : Nat) (xs : List Item) (w : World) (hL : xs.length = L) (h : Ow EI w (some ⟨b, 0, none⟩) (L + 4) (xs ++ mks)) (h2 : Sl EI w A c xs) (hl : L ≤ 1000000000) :
    Calls Try.prog 18 #[.slice (some ⟨b, 0, none⟩) L (L + 4), .slice A L c] w (fun e w' => e = .returned (.bool true) ∧ Keep nob w w') := by
  have HR := Lib.hid (h.at0 (by simp [mks]))
  have HS1 : Hid (Sl EI w (some ⟨b, 0, none⟩) (L + 4) xs) := by
    have := h.sl.take L
    rw [← hL, List.take_left, hL] at this
    exact this
  have H2 := Lib.hid h2
  have HL := Lib.hid hL
  have hlc2 := h2.le
  rw [hL] at hlc2
  have hcc2 := h2.cap
  clear h h2 hL
  have HLL := Lib.hid hl
  have hLb : (L : Int) ≤ 1000000000 := by omega
  have s1 : ∀ w, (Instr.slice 22 (.slice (some ⟨b, 0, none⟩) L (L + 4)) none (some (.int .i64 ((L : Int) + 4))) none).run Try.prog w = .ok (.slice (some ⟨b, 0, none⟩) (L + 4) (L + 4)) w := fun w => run_slice_h w 22 27 EI.sz Try.underlying22 (by kernel_rfl) _ _ _ (L + 4) _ (by simp) (by omega)
  go_enter Try.func18, Try.ntmps18
  go_wp2_with (fail)
  clear s1
  go_loopw [6] (fun u6 wr => ∃ i : Nat, i ≤ 4 ∧ u6 = .int .i64 (i : Int) ∧ Hid (Keep nob w wr)) (fun u6 _ => (4 - intOf u6).toNat)
  case atStart => exact ⟨0, Nat.zero_le _, rfl, Keep.refl _ w⟩
  case round =>
    obtain ⟨i, hi, rfl, HKr⟩ := hrel
    by_cases hlt : i < 4
    · have hi1 : (i : Int) < 4 := by omega
      have hw1 : RowKit.wrap64 (-1 - (i : Int)) = -1 - (i : Int) := IntWalk.wrap64_in _ ⟨by omega, by omega⟩
      have hR2 : Hid (wr.rangeAt b ((L + i) * 2) (EI.cells (-77, -1 - (i : Int)))) := by
        have h1 := HKr.out.range HR.out (fun h => h)
        rw [El.flat_app, range_app, El.flat_len, HL.out] at h1
        have h2 := h1.2
        have hm : mks = mks.take i ++ [(-77, -1 - (i : Int))] ++ mks.drop (i + 1) := by rw [← mks_take hlt, List.take_append_drop]
        rw [hm, List.append_assoc, El.flat_app, El.flat_app, range_app, range_app, El.flat_len, List.length_take] at h2
        have h3 := h2.2.1
        rw [El.flat_cons, El.flat_nil, List.append_nil, show min i mks.length = i by simp [mks]; omega] at h3
        rw [show 0 + L * EI.sz + i * EI.sz = (L + i) * 2 by simp only [EI]; omega] at h3
        exact h3
      have c1 := hR2.out 0 _ rfl
      have c2 := hR2.out 1 _ rfl
      simp only [Nat.add_zero] at c1 c2
      have hne : ∀ w, (binOp .neq 27 (.agg #[.int .i64 (-77), .int .i64 (-1 - (i : Int))]) (.agg #[.int .i64 (-77), .int .i64 (-1 - (i : Int))])).run Try.prog w = .ok (.bool false) w := fun w => by rw [run_neq_items (-77, -1 - (i : Int)) (-77, -1 - (i : Int)) w]; simp
      obtain ⟨k, HKI⟩ : ∃ k, Hid (L + i = k) := ⟨_, Lib.hid rfl⟩
      rw [HKI.out] at c1 c2
      have hti : (L : Int) + (i : Int) = (k : Int) := by have := HKI.out; omega
      have hi0 : (0 : Int) ≤ (k : Int) := by omega
      have hi2 : (k : Int) < (L : Int) + 4 := by omega
      clear hR2
      go_wp2_with (fail)
      exact ⟨⟨i + 1, hlt, by go_num, HKr⟩, by simp [intOf]; omega⟩
    · have hi4 : i = 4 := by omega
      subst hi4
      go_wp2_with (go_at_call 17; go_must (refine (same_ok (some ⟨b, 0, none⟩) A (L + 4) c L xs wr HL.out (HS1.out.keep HKr.out (nobIn _)) (H2.out.keep HKr.out (nobIn _)) HLL.out).mono ?_); rintro e w2 ⟨rfl, hk⟩; have HK2 := Lib.hid hk; clear hk)
      go_ret
      exact ⟨rfl, HKr.out.then_ HK2.out⟩
end Go.Proofs.Ytnofckgnnpmiiaa
