/- Merge and Unique at the type Item; plain words for what Unique leaves. -/
import Derived.Test.YtnofckgnnpmiiaaAq
import Derived.Test.YtnofckgnnpmiiaaMg
import Derived.Test.YtnofckgnnpmiiaaFm
import Derived.Deep.Cut
namespace Go.Proofs.Ytnofckgnnpmiiaa
open Go.RowKit Go.Shelf
attribute [local go_sem ↓] Go.wp_at_zero Go.wp_at_succ

/-- does the i-th element stay? -/
def staysB {α : Type} (c : α → α → Int) (xs : List α) (i : Nat) : Bool := i == 0 || match xs[i - 1]?, xs[i]? with | some y, some x => c y x != 0 | _, _ => false
/-- what Unique leaves of the first n -/
def uniqTo {α : Type} (c : α → α → Int) (xs : List α) : Nat → List α
  | 0 => []
  | i + 1 => uniqTo c xs i ++ if staysB c xs i then (xs[i]?).toList else []
theorem uniqTo_stay {α : Type} {c : α → α → Int} {xs : List α} {i : Nat} {x : α} (h : staysB c xs i = true) (hx : xs[i]? = some x) : uniqTo c xs (i + 1) = uniqTo c xs i ++ [x] := by
  rw [uniqTo, if_pos h, hx]; rfl
theorem uniqTo_go {α : Type} {c : α → α → Int} {xs : List α} {i : Nat} (h : staysB c xs i = false) : uniqTo c xs (i + 1) = uniqTo c xs i := by
  rw [uniqTo, if_neg (by rw [h]; exact Bool.false_ne_true), List.append_nil]
theorem uniqTo_le {α : Type} (c : α → α → Int) (xs : List α) : ∀ i, (uniqTo c xs i).length ≤ i
  | 0 => Nat.le_refl _
  | i + 1 => by
    have := uniqTo_le c xs i
    rw [uniqTo, List.length_append]
    split
    · cases xs[i]? <;> simp <;> omega
    · simp; omega

theorem merge_none (A1 A2 : Option Addr) (L1 L2 c1 c2 : Nat) (w : World) : Calls Try.prog 45 #[.slice A1 L1 c1, .slice A2 L2 c2, .nilFunc] w (fun e w' => e = .returned (.slice none 0 0) ∧ Keep (fun _ => False) w w') := by
  have he := fun (w : World) => run_eql_nil_nilFunc (P := Try.prog) w 28 Try.underlying28
  have hk : Hid (Keep (fun _ => False) w w) := Keep.refl _ w
  go_enter Try.func45, Try.ntmps45
  go_wp2
  go_ret
  exact ⟨rfl, hk.out⟩
theorem unique_none (A : Option Addr) (L c : Nat) (w : World) : Calls Try.prog 46 #[.slice A L c, .nilFunc] w (fun e w' => e = .returned (.slice none 0 0) ∧ Keep (fun _ => False) w w') := by
  have he := fun (w : World) => run_eql_nil_nilFunc (P := Try.prog) w 28 Try.underlying28
  have hk : Hid (Keep (fun _ => False) w w) := Keep.refl _ w
  go_enter Try.func46, Try.ntmps46
  go_wp2
  go_ret
  exact ⟨rfl, hk.out⟩

set_option maxRecDepth 100000 in
set_option maxHeartbeats 8000000 in
theorem merge45 {c : Item → Item → Int} {f : Value} {B : Nat} {S : Nat → Prop} {I : Nat → World → Prop} (hcmp : CmpOk Try.prog EI f c B S I)
   (A1 A2 : Option Addr) (c1 c2 L1 L2 n : Nat) (xs ys : List Item) (w : World) (hL1 : xs.length = L1) (hL2 : ys.length = L2) (hB : B ≤ w.heap.size) (h1 : Sl EI w A1 c1 xs) (h2 : Sl EI w A2 c2 ys) (ha1 : ¬ InB S A1) (ha2 : ¬ InB S A2)
   (hl1 : L1 ≤ 1000000000) (hl2 : L2 ≤ 1000000000) (hb1 : ∀ a, A1 = some a → a.block < w.heap.size) (hb2 : ∀ a, A2 = some a → a.block < w.heap.size) (hI : I n w) :
    Calls Try.prog 45 #[.slice A1 L1 c1, .slice A2 L2 c2, f] w fun e w' => e = .returned (.slice (some ⟨w.heap.size, 0, none⟩) (L1 + L2) (L1 + L2)) ∧ Ow EI w' (some ⟨w.heap.size, 0, none⟩) (L1 + L2) (mergeL c xs ys) ∧ w.heap.size < w'.heap.size ∧ Keep S w w' ∧ ∃ q, q ≤ L1 + L2 ∧ I (n + q) w' := by
  subst hL1; subst hL2
  obtain ⟨k, first, cap, rfl, -, -⟩ := hcmp.fn
  have he := fun (w : World) => run_eql_func_nil (P := Try.prog) w 28 Try.underlying28 (.func k) first cap
  have HM : Hid (∀ w1, Hid (w1 = w.alloc (.cells (madeCells (Value.agg #[.int .i64 0, .int .i64 0]).cells ((xs.length + ys.length) * EI.sz)) 27)) → Calls Try.prog 53 #[.slice (some ⟨w.heap.size, 0, none⟩) 0 (xs.length + ys.length), .slice A1 xs.length c1, .slice A2 ys.length c2, .func (.func k) first cap] w1
      fun e w' => e = .returned (.slice (some ⟨w.heap.size, 0, none⟩) (xs.length + ys.length) (xs.length + ys.length)) ∧ Ow EI w' (some ⟨w.heap.size, 0, none⟩) (xs.length + ys.length) (mergeL c xs ys) ∧ w.heap.size < w'.heap.size ∧ Keep S w w' ∧ ∃ q, q ≤ xs.length + ys.length ∧ I (n + q) w') := by
    intro w1 HW1
    have hk : Keep (fun _ => False) w w1 := by rw [HW1.out]; exact (Keep.refl _ w).alloc _
    have hO : Ow EI w1 (some ⟨w.heap.size, 0, none⟩) (xs.length + ys.length) ([] : List Item) := by rw [HW1.out]; exact ow_made EI w 27 _ ((0, 0) : Item) rfl 0 _ (Nat.zero_le _) (by omega)
    have hz : w.heap.size < w1.heap.size := by rw [HW1.out]; simp
    have hth : w1.there w.heap.size 0 ((xs.length + ys.length) * EI.sz) := by
      by_cases h0 : 0 < xs.length + ys.length
      · obtain ⟨b', o', e', hth⟩ := hO.room h0
        simp only [Option.some.injEq, Addr.mk.injEq, and_true] at e'
        obtain ⟨rfl, rfl⟩ := e'
        exact hth
      · rw [show xs.length + ys.length = 0 by omega, Nat.zero_mul]
        exact fun j hj => by omega
    refine (merge_any hcmp A1 A2 c1 c2 w.heap.size 0 (xs.length + ys.length) n xs ys w1 (Nat.le_trans hB hk.size) hB (h1.keep hk (fun ⟨_, _, h⟩ => h)) (h2.keep hk (fun ⟨_, _, h⟩ => h)) ?_ ?_ hth (Nat.le_refl _) (hcmp.stable _ _ _ hI (hk.below hB (fun _ _ h => h)))).mono ?_
    · rintro ⟨a, ha, h | h⟩
      · exact ha1 ⟨a, ha, h⟩
      · have := hb1 a ha; omega
    · rintro ⟨a, ha, h | h⟩
      · exact ha2 ⟨a, ha, h⟩
      · have := hb2 a ha; omega
    · rintro e w' ⟨rfl, hr, hf, hq⟩
      refine ⟨rfl, ⟨⟨by rw [mergeL_len]; exact Nat.le_refl _, by omega, fun _ => ⟨_, _, rfl, hr⟩⟩, fun _ => ⟨_, _, rfl, hf.there _ _ hth⟩⟩, Nat.lt_of_lt_of_le hz hf.keep.size, ?_, hq⟩
      refine ((hk.mono (fun _ _ h => h.elim)).trans hf.keep (fun k' h1 h2 => ?_))
      rcases h2 with h2 | h2
      · exact h2
      · omega
  clear hcmp h1 h2 ha1 ha2 hI hb1 hb2
  go_enter Try.func45, Try.ntmps45
  go_wp2_with (first
    | (at_make; refine wpList_make_E EI rfl _ _ 22 rfl 27 _ 16 Try.underlying22 info27 0 (xs.length + ys.length) _ _ rfl rfl rfl (by simp) (Nat.zero_le _) (by omega) (by omega) ?_; intro w1 HW1)
    | (go_at_call 53; go_must (refine (HM.out w1 HW1).mono ?_); rintro e w' ⟨rfl, ho, hz, hk, hq⟩; have HO := Lib.hid (And.intro ho (And.intro hz (And.intro hk hq))); clear ho hz hk hq))
  go_ret
  exact ⟨rfl, HO.out⟩

set_option maxRecDepth 100000 in
set_option maxHeartbeats 8000000 in
theorem unique46 {c : Item → Item → Int} {f : Value} {B : Nat} {S : Nat → Prop} {I : Nat → World → Prop} (hcmp : CmpOk Try.prog EI f c B S I)
   (A : Option Addr) (ca L n : Nat) (xs : List Item) (w : World) (hL : xs.length = L) (hB : B ≤ w.heap.size) (h : Sl EI w A ca xs) (hA : ¬ InB S A) (hl : L ≤ 1000000000) (hI : I n w) :
    Calls Try.prog 46 #[.slice A L ca, f] w fun e w' => ∃ A' c', e = .returned (.slice A' (uniqTo c xs L).length c') ∧ Ow EI w' A' c' (uniqTo c xs L) ∧ (∀ a, A' = some a → w.heap.size ≤ a.block) ∧ Keep S w w' ∧ ∃ q, q ≤ L ∧ I (n + q) w' := by
  obtain ⟨k, first, cap, rfl, eg, hcall⟩ := hcmp.fn
  have he := fun (w : World) => run_eql_func_nil (P := Try.prog) w 28 Try.underlying28 (.func k) first cap
  have HC := Lib.hid hcmp
  have HK := Lib.hid hcall
  have H := Lib.hid h
  have HA := Lib.hid hA
  have HI := Lib.hid hI
  have HL := Lib.hid hL
  have hlc := h.le
  rw [hL] at hlc
  have hcc := h.cap
  have HBW := Lib.hid hB
  clear hcmp hcall h hA hI hL hB
  have hnS : Hid (∀ b, w.heap.size ≤ b → ¬ S b) := fun b hb h => by have := HC.out.old b h; have := HBW.out; omega
  go_enter Try.func46, Try.ntmps46
  go_wp2_with (fail)
  clear he
  go_loopw [5, 12] (fun u5 u12 wr => ∃ (i : Nat) (Aq : Option Addr) (cq q : Nat), i ≤ L ∧ u12 = .int .i64 (i : Int) ∧ u5 = .slice Aq (uniqTo c xs i).length cq ∧ Hid (Ow EI wr Aq cq (uniqTo c xs i)) ∧ Hid (∀ a, Aq = some a → w.heap.size ≤ a.block) ∧ Hid (Keep S w wr) ∧ Hid (q ≤ i ∧ I (n + q) wr)) (fun _ u12 _ => ((L : Int) - intOf u12).toNat)
  case atStart => exact ⟨0, none, 0, 0, Nat.zero_le _, rfl, rfl, Ow.nil_ _ _ _, fun a h => by simp at h, Keep.refl _ _, Nat.le_refl _, HI.out⟩
  case round =>
    obtain ⟨i, Aq, cq, q, hi, rfl, rfl, HO, HF, HKr, HQ⟩ := hrel
    have hLb : (L : Int) ≤ 1000000000 := by omega
    by_cases hlt : i < L
    · have hi0 : (0 : Int) ≤ (i : Int) := by omega
      have hi1 : (i : Int) < (L : Int) := by omega
      obtain ⟨b1, o1, rfl, hx⟩ := (H.out.keep HKr.out HA.out).elem (i := i) (by rw [HL.out]; exact hlt)
      obtain ⟨x, HX⟩ : ∃ x, Hid (xs[i]'(by rw [HL.out]; exact hlt) = x) := ⟨_, Lib.hid rfl⟩
      have HXE : Hid (xs[i]? = some x) := by unfold Hid; rw [← HX.out]; exact List.getElem?_eq_getElem _
      rw [HX.out] at hx
      have hx1 := hx 0 _ rfl
      have hx2 := hx 1 _ rfl
      simp only [EI, Nat.add_zero] at hx1 hx2
      have hS1 : ¬ S b1 := fun h => HA.out ⟨_, rfl, h⟩
      obtain ⟨w1, HW1⟩ : ∃ w1, Hid (wr.alloc (.cells #[.int .i64 x.1, .int .i64 x.2] 27) = w1) := ⟨_, Lib.hid rfl⟩
      have HK1 : Hid (Keep (fun _ => False) wr w1) := by rw [← HW1.out]; exact (Keep.refl _ wr).alloc _
      have hz1 : w1.cell? ⟨wr.heap.size, 0, none⟩ = some (.int .i64 x.1) := by rw [← HW1.out]; simp
      have hz2 : w1.cell? ⟨wr.heap.size, 1, none⟩ = some (.int .i64 x.2) := by rw [← HW1.out]; simp
      have hnz : ¬ S wr.heap.size := hnS.out _ HKr.out.size
      have HI1 : Hid (I (n + q) w1) := HC.out.stable _ _ _ HQ.out.2 (HK1.out.below (Nat.le_trans HBW.out HKr.out.size) (fun _ _ h => h))
      have HK1w : Hid (Keep S w w1) := HKr.out.then_ (HK1.out.mono (fun _ _ h => h.elim))
      have hlen := uniqTo_le c xs i
      obtain ⟨uq, HUQ⟩ : ∃ uq, Hid (uniqTo c xs i = uq) := ⟨_, Lib.hid rfl⟩
      rw [HUQ.out] at HO hlen ⊢
      by_cases h0 : i = 0
      · have HST : Hid (staysB c xs i = true) := by unfold Hid staysB; rw [h0]; rfl
        subst h0
        simp only [Nat.zero_mul, Nat.add_zero] at hx1 hx2
        have hL0 : 0 < L := hlt
        go_wp2_with (fail)
        rw [HW1.out]
        go_quiet (fail)
        obtain ⟨wg, HWG⟩ : ∃ wg, Hid (w1.drewN nq = wg) := ⟨_, Lib.hid rfl⟩
        have HKd : Hid (Keep (fun _ => False) w1 wg) := by rw [← HWG.out]; exact (Keep.refl _ w1).drewN _
        rw [HWG.out]
        have hg1 := HKd.out.cell hz1 (fun h => h)
        have hg2 := HKd.out.cell hz2 (fun h => h)
        have HKB : Hid (Keep S w wg) := HK1w.out.then_ (HKd.out.mono (fun _ _ h => h.elim))
        have HOg : Hid (Ow EI wg Aq cq uq) := (HO.out.keep HK1.out (fun ⟨_, _, h⟩ => h)).keep HKd.out (fun ⟨_, _, h⟩ => h)
        obtain ⟨qg, HQE⟩ : ∃ qg, Hid (qg = q) := ⟨_, Lib.hid rfl⟩
        have HIg : Hid (I (n + qg) wg) := by rw [HQE.out]; exact HC.out.stable _ _ _ HI1.out (HKd.out.below (Nat.le_trans HBW.out HK1w.out.size) (fun _ _ h => h))
        have HQg : Hid (qg ≤ 0 + 1) := by have := HQ.out.1; have := HQE.out; unfold Hid; omega
        clear hx hx1 hx2 hz1 hz2
        have HKg : Hid (Keep S w wg) := HKB.out
        obtain ⟨w3, HW3⟩ : ∃ w3, Hid (w3 = wg.alloc (.cells #[.int .i64 x.1, .int .i64 x.2] 27)) := ⟨_, Lib.hid rfl⟩
        have HK3 : Hid (Keep (fun _ => False) wg w3) := by rw [HW3.out]; exact (Keep.refl _ wg).alloc _
        have HS3 : Hid (Sl EI w3 (some ⟨wg.heap.size, 0, none⟩) 1 [x]) := by rw [HW3.out]; exact Sl.one EI wg _ _ 27 rfl
        have HO3 : Hid (Ow EI w3 Aq cq uq) := HOg.out.keep HK3.out (fun ⟨_, _, h⟩ => h)
        have HE3 := Lib.hid HW3.out.symm
        have hb16 : (uq.length + 1) * 16 ≤ 140737488355328 := by omega
        go_wp2_with (at_builtin; rw [HE3.out]; refine wpList_append_two EI rfl _ _ 22 rfl 27 _ 16 Try.underlying22 info27 rfl Aq uq.length cq rfl uq rfl HO3.out (some ⟨wg.heap.size, 0, none⟩) 1 1 rfl [x] rfl HS3.out (by decide) hb16 (by omega) ?_; intro A' c' w4 hap; have HAP := Lib.hid hap; clear hap)
        have HF4 : Hid (∀ a, A' = some a → w.heap.size ≤ a.block) := fun a ha => by
          rcases HAP.out.where_ with ⟨h1, _, _, _⟩ | ⟨h1, _, _⟩
          · exact HF.out a (by rw [← h1]; exact ha)
          · rw [h1 a ha]
            exact Nat.le_trans HKg.out.size HK3.out.size
        have HKA : Hid (Keep (fun k => w.heap.size ≤ k) w3 w4) := by
          rcases HAP.out.where_ with ⟨_, _, _, h4⟩ | ⟨_, _, h4⟩
          · exact h4.mono (fun k _ ⟨a, ha, e⟩ => by rw [← e]; exact HF.out a ha)
          · exact h4.mono (fun _ _ h => h.elim)
        have HK4 : Hid (Keep S w w4) := (HKg.out.then_ (HK3.out.mono (fun _ _ h => h.elim))).trans HKA.out (fun k h1 h2 => by omega)
        have HI4 : Hid (I (n + qg) w4) := HC.out.stable _ _ _ HIg.out ((HK3.out.below (Nat.le_trans HBW.out HKg.out.size) (fun _ _ h => h)).trans (HKA.out.below (Nat.le_trans HBW.out (Nat.le_trans HKg.out.size HK3.out.size)) (fun k h1 h2 => by have := HBW.out; omega)))
        have HU : Hid (uniqTo c xs (0 + 1) = uq ++ [x]) := by unfold Hid; rw [uniqTo_stay HST.out HXE.out, HUQ.out]
        have HO4 : Hid (Ow EI w4 A' c' (uniqTo c xs (0 + 1))) := by rw [HU.out]; exact HAP.out.ow
        have HLL : Hid (uq.length + 1 = (uniqTo c xs (0 + 1)).length) := by unfold Hid; rw [HU.out]; simp
        go_wp2_with (fail)
        rw [HLL.out]
        exact ⟨⟨0 + 1, A', c', qg, hlt, by go_num, rfl, HO4, HF4, HK4, by have := HQg.out; omega, HI4.out⟩, by simp [intOf]; omega⟩
      · have hi2 : (1 : Int) ≤ (i : Int) := by omega
        have h0j : ¬ ((i : Int) = 0) := by omega
        have hb0 : ((i : Int) == 0) = false := by simpa using h0
        have hb1 : decide ((i : Int) = 0) = false := decide_eq_false h0j
        have hb2 : (i == 0) = false := by simpa using h0
        obtain ⟨p, HP⟩ : ∃ p, Hid (i = p + 1) := ⟨i - 1, by unfold Hid; omega⟩
        have hpi : (i : Int) - 1 = (p : Int) := by have := HP.out; omega
        have hpl : p < L := by have := HP.out; omega
        obtain ⟨b', o', e', hy⟩ := (H.out.keep HKr.out HA.out).elem (i := p) (by rw [HL.out]; exact hpl)
        simp only [Option.some.injEq, Addr.mk.injEq, and_true] at e'
        obtain ⟨rfl, rfl⟩ := e'
        obtain ⟨y, HY⟩ : ∃ y, Hid (xs[p]'(by rw [HL.out]; exact hpl) = y) := ⟨_, Lib.hid rfl⟩
        have HYE : Hid (xs[p]? = some y) := by unfold Hid; rw [← HY.out]; exact List.getElem?_eq_getElem _
        rw [HY.out] at hy
        have hy1 := HK1.out.cell (hy 0 _ rfl) (fun h => h)
        have hy2 := HK1.out.cell (hy 1 _ rfl) (fun h => h)
        simp only [EI, Nat.add_zero] at hy1 hy2
        have hp0 : (0 : Int) ≤ (p : Int) := by omega
        have hp1 : (p : Int) < (L : Int) := by omega
        have hw2 : IntKind.i64.wrap ((i : Int) - 1) = (p : Int) := by rw [hpi, IntWalk.i64_left]; exact IntWalk.wrap64_in _ ⟨by omega, by omega⟩
        have hw4 : IntKind.i64.wrap (p : Int) = (p : Int) := by rw [IntWalk.i64_left]; exact IntWalk.wrap64_in _ ⟨by omega, by omega⟩
        have HSB : Hid (staysB c xs i = (c y x != 0)) := by
          unfold Hid staysB
          rw [HP.out, show p + 1 - 1 = p by omega, HYE.out, ← HP.out, HXE.out]
          rw [HP.out]
          rfl
        have HCALL : Hid (Calls Try.prog k (first ++ (#[EI.val y, EI.val x] ++ cap)) w1.drew fun e w' => e = .returned (.int .i64 (c y x)) ∧ I (n + (q + 1)) w' ∧ Keep S w1.drew w') := by
          have := HK.out (n + q) w1.drew y x (HC.out.stable _ _ _ HI1.out (Below.drew (Below.refl _ _)))
          rw [Nat.add_assoc] at this
          exact this
        simp only [EI] at HCALL
        obtain ⟨cv, HCV⟩ : ∃ cv, Hid (c y x = cv) := ⟨_, Lib.hid rfl⟩
        rw [HCV.out] at HCALL HSB
        clear hy HY hx
        go_wp2_with (fail)
        rw [HW1.out]
        clear hx1 hx2
        refine wp_region_midW 10 _ rfl (by kernel_rfl) (by kernel_rfl) ?_
        simp only [List.take_succ_cons, List.take_zero]
        repeat still_step
        refine wpStill_nil ?_
        refine ⟨by rfl, fun K hK => ?_⟩
        go_simp
        refine HCALL.out.mono ?_
        rintro e wg ⟨rfl, hIg, hkg⟩
        refine hK _ _ ?_
        clear hK K
        simp only [List.drop_succ_cons, List.drop_zero]
        refine Veil.out ?_
        repeat (refine veil_step (fun K hK => ?_); go_simp; refine hK _ ?_; clear hK K)
        refine ⟨wpStill_nil ?_⟩
        have HKg1 := Lib.hid hkg.of_drew
        have HIg := Lib.hid hIg
        clear hkg hIg
        have hg1 := HKg1.out.cell hz1 hnz
        have hg2 := HKg1.out.cell hz2 hnz
        have HKB : Hid (Keep S w wg) := HK1w.out.then_ HKg1.out
        have HOg : Hid (Ow EI wg Aq cq uq) := (HO.out.keep HK1.out (fun ⟨_, _, h⟩ => h)).keep HKg1.out (fun ⟨a, ha, h⟩ => hnS.out _ (HF.out a ha) h)
        obtain ⟨qg, HQE⟩ : ∃ qg, Hid (q + 1 = qg) := ⟨_, Lib.hid rfl⟩
        rw [HQE.out] at HIg
        have HQg : Hid (qg ≤ i + 1) := by have := HQ.out.1; have := HQE.out; unfold Hid; omega
        clear hz1 hz2 hy1 hy2
        by_cases hcv : cv = 0
        · have HST : Hid (staysB c xs i = false) := by unfold Hid; rw [HSB.out, hcv]; rfl
          have HU : Hid (uniqTo c xs (i + 1) = uq) := by unfold Hid; rw [uniqTo_go HST.out, HUQ.out]
          go_wp2_with (fail)
          have HOf : Hid (Ow EI wg Aq cq (uniqTo c xs (i + 1))) := by rw [HU.out]; exact HOg.out
          rw [show uq.length = (uniqTo c xs (i + 1)).length by rw [HU.out]]
          go_roundw
          case rel => exact ⟨i + 1, Aq, cq, qg, hlt, by go_num, rfl, HOf, HF, HKB, HQg.out, HIg.out⟩
          case measure => simp [intOf]; omega
        · have HST : Hid (staysB c xs i = true) := by unfold Hid; rw [HSB.out]; simpa using hcv
          have HKg : Hid (Keep S w wg) := HKB.out
          obtain ⟨w3, HW3⟩ : ∃ w3, Hid (w3 = wg.alloc (.cells #[.int .i64 x.1, .int .i64 x.2] 27)) := ⟨_, Lib.hid rfl⟩
          have HK3 : Hid (Keep (fun _ => False) wg w3) := by rw [HW3.out]; exact (Keep.refl _ wg).alloc _
          have HS3 : Hid (Sl EI w3 (some ⟨wg.heap.size, 0, none⟩) 1 [x]) := by rw [HW3.out]; exact Sl.one EI wg _ _ 27 rfl
          have HO3 : Hid (Ow EI w3 Aq cq uq) := HOg.out.keep HK3.out (fun ⟨_, _, h⟩ => h)
          have HE3 := Lib.hid HW3.out.symm
          have hb16 : (uq.length + 1) * 16 ≤ 140737488355328 := by omega
          go_wp2_with (at_builtin; rw [HE3.out]; refine wpList_append_two EI rfl _ _ 22 rfl 27 _ 16 Try.underlying22 info27 rfl Aq uq.length cq rfl uq rfl HO3.out (some ⟨wg.heap.size, 0, none⟩) 1 1 rfl [x] rfl HS3.out (by decide) hb16 (by omega) ?_; intro A' c' w4 hap; have HAP := Lib.hid hap; clear hap)
          have HF4 : Hid (∀ a, A' = some a → w.heap.size ≤ a.block) := fun a ha => by
            rcases HAP.out.where_ with ⟨h1, _, _, _⟩ | ⟨h1, _, _⟩
            · exact HF.out a (by rw [← h1]; exact ha)
            · rw [h1 a ha]
              exact Nat.le_trans HKg.out.size HK3.out.size
          have HKA : Hid (Keep (fun k => w.heap.size ≤ k) w3 w4) := by
            rcases HAP.out.where_ with ⟨_, _, _, h4⟩ | ⟨_, _, h4⟩
            · exact h4.mono (fun k _ ⟨a, ha, e⟩ => by rw [← e]; exact HF.out a ha)
            · exact h4.mono (fun _ _ h => h.elim)
          have HK4 : Hid (Keep S w w4) := (HKg.out.then_ (HK3.out.mono (fun _ _ h => h.elim))).trans HKA.out (fun k h1 h2 => by omega)
          have HI4 : Hid (I (n + qg) w4) := HC.out.stable _ _ _ HIg.out ((HK3.out.below (Nat.le_trans HBW.out HKg.out.size) (fun _ _ h => h)).trans (HKA.out.below (Nat.le_trans HBW.out (Nat.le_trans HKg.out.size HK3.out.size)) (fun k h1 h2 => by have := HBW.out; omega)))
          have HU : Hid (uniqTo c xs (i + 1) = uq ++ [x]) := by unfold Hid; rw [uniqTo_stay HST.out HXE.out, HUQ.out]
          have HO4 : Hid (Ow EI w4 A' c' (uniqTo c xs (i + 1))) := by rw [HU.out]; exact HAP.out.ow
          have HLL : Hid (uq.length + 1 = (uniqTo c xs (i + 1)).length) := by unfold Hid; rw [HU.out]; simp
          go_wp2_with (fail)
          rw [HLL.out]
          exact ⟨⟨i + 1, A', c', qg, hlt, by go_num, rfl, HO4, HF4, HK4, by have := HQg.out; omega, HI4.out⟩, by simp [intOf]; omega⟩
    · have hiL : i = L := by omega
      subst hiL
      go_wp2_with (fail)
      go_ret
      exact ⟨Aq, cq, rfl, HO.out, HF.out, HKr.out, q, HQ.out.1, HQ.out.2⟩
end Go.Proofs.Ytnofckgnnpmiiaa
