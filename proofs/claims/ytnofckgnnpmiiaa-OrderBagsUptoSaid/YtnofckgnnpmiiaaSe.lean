/- Search at the type Item. -/
import Derived.Test.YtnofckgnnpmiiaaMr
namespace Go.Proofs.Ytnofckgnnpmiiaa
open Go.RowKit
attribute [local go_sem ↓] Go.wp_at_zero Go.wp_at_succ

/-- how many binary digits a number has -/
def dig (n : Nat) : Nat := if h : n = 0 then 0 else dig (n / 2) + 1
theorem dig_zero : dig 0 = 0 := by rw [dig]; simp
theorem dig_pos {n : Nat} (h : 0 < n) : dig n = dig (n / 2) + 1 := by rw [dig, dif_neg (by omega)]
theorem dig_mono : ∀ (n m : Nat), n ≤ m → dig n ≤ dig m := by
  intro n
  induction n using Nat.strongRecOn with
  | _ n ih =>
    intro m h
    by_cases h0 : n = 0
    · subst h0; rw [dig_zero]; omega
    · rw [dig_pos (show 0 < n by omega), dig_pos (show 0 < m by omega)]
      have := ih (n / 2) (by omega) (m / 2) (by omega)
      omega

def bsearch {α : Type} (c : α → α → Int) (x : α) (xs : List α) (lo hi : Nat) : Nat :=
  if lo < hi then
    match xs[(lo + hi) / 2]? with
    | some y => if c y x < 0 then bsearch c x xs ((lo + hi) / 2 + 1) hi else bsearch c x xs lo ((lo + hi) / 2)
    | none => lo
  else lo
termination_by hi - lo

/-- is the element of a number alike to x? -/
def alikeAt {α : Type} (c : α → α → Int) (x : α) (xs : List α) (k : Nat) : Bool := match xs[k]? with | some y => c y x == 0 | none => false

theorem bsearch_step {α : Type} {c : α → α → Int} {x : α} {xs : List α} {lo hi : Nat} (h : lo < hi) {y : α} (hy : xs[(lo + hi) / 2]? = some y) :
    bsearch c x xs lo hi = if c y x < 0 then bsearch c x xs ((lo + hi) / 2 + 1) hi else bsearch c x xs lo ((lo + hi) / 2) := by
  rw [bsearch, if_pos h, hy]
theorem bsearch_end {α : Type} {c : α → α → Int} {x : α} {xs : List α} {lo hi : Nat} (h : ¬ lo < hi) : bsearch c x xs lo hi = lo := by
  rw [bsearch, if_neg h]

def SearchPost {α : Type} (c : α → α → Int) (S : Nat → Prop) (I : Nat → World → Prop) (n : Nat) (w : World) (x : α) (xs : List α) (e : Ending) (w' : World) : Prop :=
  e = .returned (.tuple #[.int .i64 (bsearch c x xs 0 xs.length : Nat), .bool (alikeAt c x xs (bsearch c x xs 0 xs.length))]) ∧ bsearch c x xs 0 xs.length ≤ xs.length ∧ Keep S w w' ∧ ∃ q, q ≤ dig xs.length + 1 ∧ I (n + q) w'

set_option maxRecDepth 100000 in
set_option maxHeartbeats 1000000 in
theorem search_any {c : Item → Item → Int} {f : Value} {B : Nat} {S : Nat → Prop} {I : Nat → World → Prop} (hcmp : CmpOk Try.prog EI f c B S I)
   (A : Option Addr) (ca n : Nat) (xs : List Item) (x : Item) (w : World) (hB : B ≤ w.heap.size) (h : Sl EI w A ca xs) (hA : ¬ InB S A) (hl : xs.length ≤ 1000000000) (hI : I n w) :
    Calls Try.prog 21 #[.slice A xs.length ca, EI.val x, f] w (SearchPost c S I n w x xs) := by
  obtain ⟨k, first, cap, rfl, eg, hcall⟩ := hcmp.fn
  have HC := Lib.hid hcmp
  have HK := Lib.hid hcall
  have H := Lib.hid h
  have HI := Lib.hid hI
  have HA := Lib.hid hA
  clear hcmp hcall h hI hA
  have he := fun (w : World) => run_eql_func_nil (P := Try.prog) w 28 Try.underlying28 (.func k) first cap
  show Calls Try.prog 21 #[.slice A xs.length ca, .agg #[.int .i64 x.1, .int .i64 x.2], .func (.func k) first cap] w _
  go_enter Try.func21, Try.ntmps21
  go_wp2_with (fail)
  have HW : Hid (Keep S w (w.alloc (.cells #[.int .i64 x.1, .int .i64 x.2] 27)) ∧ I n (w.alloc (.cells #[.int .i64 x.1, .int .i64 x.2] 27))) :=
    ⟨Keep.mk_alloc S w _, HC.out.stable _ _ _ HI.out ((Keep.mk_alloc (fun _ => False) w _).below hB (fun _ _ h => h))⟩
  have hnS : ¬ S w.heap.size := fun h => by have := HC.out.old _ h; omega
  go_loopw [8, 9] (fun u8 u9 wr => ∃ lo hi q : Nat, lo ≤ hi ∧ hi ≤ xs.length ∧ u8 = .int .i64 lo ∧ u9 = .int .i64 hi ∧ Hid (bsearch c x xs lo hi = bsearch c x xs 0 xs.length) ∧ Hid (q + dig (hi - lo) ≤ dig xs.length) ∧ Hid (Keep S w wr) ∧ Hid (I (n + q) wr) ∧ wr.cell? ⟨w.heap.size, 0, none⟩ = some (.int .i64 x.1) ∧ wr.cell? ⟨w.heap.size, 1, none⟩ = some (.int .i64 x.2))
    (fun u8 u9 _ => (intOf u9 - intOf u8).toNat)
  case atStart => exact ⟨0, xs.length, 0, Nat.zero_le _, Nat.le_refl _, rfl, rfl, Lib.hid rfl, by unfold Hid; simp, HW.out.1, HW.out.2, by simp, by simp⟩
  case round =>
    obtain ⟨lo, hi, q, h1, h2, rfl, rfl, HBS, HQ, HKP, HIq, hx1, hx2⟩ := hrel
    have hBr : Hid (B ≤ wr.heap.size) := Nat.le_trans hB HKP.out.size
    by_cases hlt : lo < hi
    · have HSL : Hid (Sl EI wr A ca xs) := H.out.keep HKP.out HA.out
      obtain ⟨mid, HM⟩ : ∃ mid, Hid ((lo + hi) / 2 = mid) := ⟨_, Lib.hid rfl⟩
      have hm1 : lo ≤ mid := by have := HM.out; omega
      have hm2 : mid < hi := by have := HM.out; omega
      have HMI : Hid (((lo : Int) + (hi : Int)) / 2 = (mid : Int)) := by unfold Hid; have := HM.out; omega
      obtain ⟨b1, o1, rfl, hy⟩ := HSL.out.elem (i := mid) (by omega)
      obtain ⟨y, HY⟩ : ∃ y, Hid (xs[mid]'(by omega) = y) := ⟨_, Lib.hid rfl⟩
      rw [HY.out] at hy
      have hy1 := hy 0 _ rfl
      have hy2 := hy 1 _ rfl
      have hS1 : ¬ S b1 := fun h => HA.out ⟨_, rfl, h⟩
      have hym : Hid (xs[(lo + hi) / 2]? = some y) := by unfold Hid; rw [HM.out, ← HY.out]; simp
      have HST := Lib.hid (bsearch_step (c := c) (x := x) hlt hym.out)
      have hi0 : (0 : Int) ≤ (mid : Int) := by omega
      have hi1 : (mid : Int) < (xs.length : Int) := by omega
      clear hy
      go_wp2_with (fail)
      rw [HMI.out]
      simp only [EI, Nat.add_zero] at hy1 hy2
      go_region_held3 (fun w' => w'.cell? ⟨b1, o1 + mid * 2, none⟩ = some (.int .i64 y.1) ∧ w'.cell? ⟨b1, o1 + mid * 2 + 1, none⟩ = some (.int .i64 y.2) ∧ w'.cell? ⟨w.heap.size, 0, none⟩ = some (.int .i64 x.1) ∧ w'.cell? ⟨w.heap.size, 1, none⟩ = some (.int .i64 x.2)) (first | go_keep | exact ⟨hk1.cell hy1 hS1, hk1.cell hy2 hS1, hk1.cell hx1 hnS, hk1.cell hx2 hnS⟩)
        ((refine (HK.out (n + q) _ y x (HC.out.stable _ _ wr.drew HIq.out (Below.drew (Below.refl _ _)))).mono ?_; rintro e w1 ⟨rfl, hI1, hk1⟩))
      rename_i hHeld
      obtain ⟨hy1', hy2', hx1', hx2'⟩ := hHeld
      have HK1 := Lib.hid hk1.of_drew
      have HI1 := Lib.hid hI1
      clear hy1 hy2 hx1 hx2 hk1 hI1
      have HKW : Hid (Keep S w w1) := HKP.out.then_ HK1.out
      have hdg : Hid (dig (hi - lo) = dig ((hi - lo) / 2) + 1) := dig_pos (by omega)
      by_cases hcv : c y x < 0
      · go_wp2
        go_roundw
        case rel =>
          refine ⟨mid + 1, hi, q + 1, by omega, h2, by go_num, rfl, ?_, ?_, HKW, HI1, hx1', hx2'⟩
          · unfold Hid; rw [← HBS.out, HST.out, if_pos hcv, HM.out]
          · have := HQ.out; have := hdg.out; have := dig_mono (hi - (mid + 1)) ((hi - lo) / 2) (by have := HM.out; omega); unfold Hid; omega
        case measure => simp [intOf]; omega
      · go_wp2
        go_roundw
        case rel =>
          refine ⟨lo, mid, q + 1, hm1, by omega, rfl, rfl, ?_, ?_, HKW, HI1, hx1', hx2'⟩
          · unfold Hid; rw [← HBS.out, HST.out, if_neg (by omega), HM.out]
          · have := HQ.out; have := hdg.out; have := dig_mono (mid - lo) ((hi - lo) / 2) (by have := HM.out; omega); unfold Hid; omega
        case measure => simp [intOf]; omega
    · have HE : Hid (bsearch c x xs 0 xs.length = lo) := by unfold Hid; rw [← HBS.out]; exact bsearch_end hlt
      have hlo : lo ≤ xs.length := by omega
      by_cases hin : lo < xs.length
      · have HSL : Hid (Sl EI wr A ca xs) := H.out.keep HKP.out HA.out
        obtain ⟨b1, o1, rfl, hy⟩ := HSL.out.elem (i := lo) hin
        obtain ⟨y, HY⟩ : ∃ y, Hid (xs[lo] = y) := ⟨_, Lib.hid rfl⟩
        rw [HY.out] at hy
        have hy1 := hy 0 _ rfl
        have hy2 := hy 1 _ rfl
        have hS1 : ¬ S b1 := fun h => HA.out ⟨_, rfl, h⟩
        have hi0 : (0 : Int) ≤ (lo : Int) := by omega
        have hi1 : (lo : Int) < (xs.length : Int) := by omega
        have hi2 : decide ((lo : Int) < (xs.length : Int)) = true := by simpa using hin
        clear hy
        go_wp2_with (fail)
        simp only [EI, Nat.add_zero] at hy1 hy2
        go_region_held3 (fun w' => w'.cell? ⟨b1, o1 + lo * 2, none⟩ = some (.int .i64 y.1) ∧ w'.cell? ⟨b1, o1 + lo * 2 + 1, none⟩ = some (.int .i64 y.2) ∧ w'.cell? ⟨w.heap.size, 0, none⟩ = some (.int .i64 x.1) ∧ w'.cell? ⟨w.heap.size, 1, none⟩ = some (.int .i64 x.2)) (first | go_keep | exact ⟨hk1.cell hy1 hS1, hk1.cell hy2 hS1, hk1.cell hx1 hnS, hk1.cell hx2 hnS⟩)
          ((refine (HK.out (n + q) _ y x (HC.out.stable _ _ wr.drew HIq.out (Below.drew (Below.refl _ _)))).mono ?_; rintro e w1 ⟨rfl, hI1, hk1⟩))
        have HK1 := Lib.hid hk1.of_drew
        have HI1 := Lib.hid hI1
        clear hk1 hI1
        have HAL : Hid (alikeAt c x xs lo = (c y x == 0)) := by unfold Hid alikeAt; rw [show xs[lo]? = some y by rw [← HY.out]; simp]
        go_wp2
        go_ret2
        refine ⟨?_, by rw [HE.out]; exact hlo, HKP.out.then_ HK1.out, q + 1, by have := HQ.out; omega, HI1.out⟩
        rw [HE.out, HAL.out]
        rfl
      · have hi2 : decide ((lo : Int) < (xs.length : Int)) = false := by simpa using hin
        have HAL : Hid (alikeAt c x xs lo = false) := by unfold Hid alikeAt; rw [List.getElem?_eq_none (by omega)]
        go_wp2_with (fail)
        go_quiet (fail)
        go_wp2
        go_ret2
        refine ⟨?_, by rw [HE.out]; exact hlo, HKP.out.drewN _, q, by have := HQ.out; omega, HC.out.stable _ _ _ HIq.out ((Keep.refl (fun _ => False) wr).drewN _ |>.below hBr.out (fun _ _ h => h))⟩
        rw [HE.out, HAL.out]
        rfl
end Go.Proofs.Ytnofckgnnpmiiaa
