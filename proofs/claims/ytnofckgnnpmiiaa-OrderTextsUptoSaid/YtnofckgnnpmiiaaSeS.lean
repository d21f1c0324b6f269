/- Search at strings. -/
import Derived.Deep.Cut
import Derived.Test.YtnofckgnnpmiiaaSe
import Derived.Test.YtnofckgnnpmiiaaMr
namespace Go.Proofs.Ytnofckgnnpmiiaa.Str
open Go.RowKit
attribute [local go_sem ↓] Go.wp_at_zero Go.wp_at_succ

set_option maxRecDepth 100000 in
set_option maxHeartbeats 1000000 in
theorem search_any {c : ByteArray → ByteArray → Int} {f : Value} {B : Nat} {S : Nat → Prop} {I : Nat → World → Prop} (hcmp : CmpOk Try.prog ES f c B S I)
   (A : Option Addr) (ca n : Nat) (xs : List ByteArray) (x : ByteArray) (w : World) (hB : B ≤ w.heap.size) (h : Sl ES w A ca xs) (hA : ¬ InB S A) (hl : xs.length ≤ 1000000000) (hI : I n w) :
    Calls Try.prog 32 #[.slice A xs.length ca, ES.val x, f] w (SearchPost c S I n w x xs) := by
  obtain ⟨k, first, cap, rfl, eg, hcall⟩ := hcmp.fn
  have HC := Lib.hid hcmp
  have HK := Lib.hid hcall
  have H := Lib.hid h
  have HI := Lib.hid hI
  have HA := Lib.hid hA
  clear hcmp hcall h hI hA
  have he := fun (w : World) => run_eql_func_nil (P := Try.prog) w 43 Try.underlying43 (.func k) first cap
  show Calls Try.prog 32 #[.slice A xs.length ca, .string x, .func (.func k) first cap] w _
  go_enter Try.func32, Try.ntmps32
  go_wp2_with (fail)
  go_loopw [8, 9] (fun u8 u9 wr => ∃ lo hi q : Nat, lo ≤ hi ∧ hi ≤ xs.length ∧ u8 = .int .i64 lo ∧ u9 = .int .i64 hi ∧ Hid (bsearch c x xs lo hi = bsearch c x xs 0 xs.length) ∧ Hid (q + dig (hi - lo) ≤ dig xs.length) ∧ Hid (Keep S w wr) ∧ Hid (I (n + q) wr))
    (fun u8 u9 _ => (intOf u9 - intOf u8).toNat)
  case atStart => exact ⟨0, xs.length, 0, Nat.zero_le _, Nat.le_refl _, rfl, rfl, Lib.hid rfl, by unfold Hid; simp, Keep.refl _ _, HI.out⟩
  case round =>
    obtain ⟨lo, hi, q, h1, h2, rfl, rfl, HBS, HQ, HKP, HIq⟩ := hrel
    have hBr : Hid (B ≤ wr.heap.size) := Nat.le_trans hB HKP.out.size
    by_cases hlt : lo < hi
    · have HSL : Hid (Sl ES wr A ca xs) := H.out.keep HKP.out HA.out
      obtain ⟨mid, HM⟩ : ∃ mid, Hid ((lo + hi) / 2 = mid) := ⟨_, Lib.hid rfl⟩
      have hm1 : lo ≤ mid := by have := HM.out; omega
      have hm2 : mid < hi := by have := HM.out; omega
      have HMI : Hid (((lo : Int) + (hi : Int)) / 2 = (mid : Int)) := by unfold Hid; have := HM.out; omega
      obtain ⟨b1, o1, rfl, hy⟩ := HSL.out.elem (i := mid) (by omega)
      obtain ⟨y, HY⟩ : ∃ y, Hid (xs[mid]'(by omega) = y) := ⟨_, Lib.hid rfl⟩
      rw [HY.out] at hy
      have hy1 := hy 0 _ rfl
      have hS1 : ¬ S b1 := fun h => HA.out ⟨_, rfl, h⟩
      have hym : Hid (xs[(lo + hi) / 2]? = some y) := by unfold Hid; rw [HM.out, ← HY.out]; simp
      have HST := Lib.hid (bsearch_step (c := c) (x := x) hlt hym.out)
      have hi0 : (0 : Int) ≤ (mid : Int) := by omega
      have hi1 : (mid : Int) < (xs.length : Int) := by omega
      clear hy
      simp only [ES, Nat.add_zero, Nat.mul_one] at hy1
      by_cases hcv : c y x < 0
      · skip
        go_upto_region 6 with (fail)
        rw [HMI.out]
        go_wp2_with ((refine (HK.out (n + q) _ y x HIq.out).mono ?_); rintro e w1 ⟨rfl, hI1, hk1⟩)
        have HK1 := Lib.hid hk1
        have HI1 := Lib.hid hI1
        clear hy1 hk1 hI1
        have HKW : Hid (Keep S w w1) := HKP.out.then_ HK1.out
        have hdg : Hid (dig (hi - lo) = dig ((hi - lo) / 2) + 1) := dig_pos (by omega)
        go_roundw
        case rel =>
          refine ⟨mid + 1, hi, q + 1, by omega, h2, by go_num, rfl, ?_, ?_, HKW, HI1⟩
          · unfold Hid; rw [← HBS.out, HST.out, if_pos hcv, HM.out]
          · have := HQ.out; have := hdg.out; have := dig_mono (hi - (mid + 1)) ((hi - lo) / 2) (by have := HM.out; omega); unfold Hid; omega
        case measure => simp [intOf]; omega
      · have hcw : decide (c y x < 0) = false := decide_eq_false hcv
        go_upto_region 6 with (fail)
        rw [HMI.out]
        go_wp2_with ((refine (HK.out (n + q) _ y x HIq.out).mono ?_); rintro e w1 ⟨rfl, hI1, hk1⟩)
        have HK1 := Lib.hid hk1
        have HI1 := Lib.hid hI1
        clear hy1 hk1 hI1
        have HKW : Hid (Keep S w w1) := HKP.out.then_ HK1.out
        have hdg : Hid (dig (hi - lo) = dig ((hi - lo) / 2) + 1) := dig_pos (by omega)
        go_roundw
        case rel =>
          refine ⟨lo, mid, q + 1, hm1, by omega, rfl, rfl, ?_, ?_, HKW, HI1⟩
          · unfold Hid; rw [← HBS.out, HST.out, if_neg (by omega), HM.out]
          · have := HQ.out; have := hdg.out; have := dig_mono (mid - lo) ((hi - lo) / 2) (by have := HM.out; omega); unfold Hid; omega
        case measure => simp [intOf]; omega
    · have HE : Hid (bsearch c x xs 0 xs.length = lo) := by unfold Hid; rw [← HBS.out]; exact bsearch_end hlt
      have hlo : lo ≤ xs.length := by omega
      by_cases hin : lo < xs.length
      · have HSL : Hid (Sl ES wr A ca xs) := H.out.keep HKP.out HA.out
        obtain ⟨b1, o1, rfl, hy⟩ := HSL.out.elem (i := lo) hin
        obtain ⟨y, HY⟩ : ∃ y, Hid (xs[lo] = y) := ⟨_, Lib.hid rfl⟩
        rw [HY.out] at hy
        have hy1 := hy 0 _ rfl
        have hS1 : ¬ S b1 := fun h => HA.out ⟨_, rfl, h⟩
        have hi0 : (0 : Int) ≤ (lo : Int) := by omega
        have hi1 : (lo : Int) < (xs.length : Int) := by omega
        have hi2 : decide ((lo : Int) < (xs.length : Int)) = true := by simpa using hin
        clear hy
        simp only [ES, Nat.add_zero, Nat.mul_one] at hy1
        go_wp2_with ((refine (HK.out (n + q) _ y x HIq.out).mono ?_); rintro e w1 ⟨rfl, hI1, hk1⟩)
        have HK1 := Lib.hid hk1
        have HI1 := Lib.hid hI1
        clear hk1 hI1
        have HAL : Hid (alikeAt c x xs lo = (c y x == 0)) := by unfold Hid alikeAt; rw [show xs[lo]? = some y by rw [← HY.out]; simp]
        go_wp2
        go_ret2
        refine ⟨?_, by rw [HE.out]; exact hlo, HKP.out.then_ HK1.out, q + 1, by have := HQ.out; omega, HI1.out⟩
        rw [HE.out, HAL.out]
        rfl
      · have hi2 : decide ((lo : Int) < (xs.length : Int)) = false := by simpa using hin
        have HAL : Hid (alikeAt c x xs lo = false) := by unfold Hid alikeAt; rw [List.getElem?_eq_none (by omega)]
        go_wp2_with (fail)
        go_ret2
        refine ⟨?_, by rw [HE.out]; exact hlo, HKP.out, q, by have := HQ.out; omega, HIq.out⟩
        rw [HE.out, HAL.out]
        rfl
end Go.Proofs.Ytnofckgnnpmiiaa.Str
