/- A bag of Items: New, there, Len, ahead. -/
import Derived.Test.YtnofckgnnpmiiaaTw
import Derived.Test.YtnofckgnnpmiiaaSoH
import Derived.Test.YtnofckgnnpmiiaaHp
import Derived.Test.YtnofckgnnpmiiaaEs
namespace Go.Proofs.Ytnofckgnnpmiiaa
open Go.RowKit Go.Shelf
attribute [local go_sem ↓] Go.wp_at_zero Go.wp_at_succ

/-- a bag lies in block b: its order, its heap, the number of the next one -/
structure Bg (w : World) (b : Nat) (f : Value) (A : Option Addr) (c : Nat) (hs : List (Held Item)) (m : Nat) : Prop where
  cmp : w.cell? ⟨b, 0, none⟩ = some f
  heap : w.cell? ⟨b, 1, none⟩ = some (.slice A hs.length c)
  next : w.cell? ⟨b, 2, none⟩ = some (.int .i64 m)
  th : w.there b 0 3
  ow : Ow EHI w A c hs
  apart : ∀ a, A = some a → a.block ≠ b
  old : ∀ a, A = some a → a.block < w.heap.size

theorem Bg.keep {S : Nat → Prop} {w w1 : World} {b : Nat} {f : Value} {A : Option Addr} {c : Nat} {hs : List (Held Item)} {m : Nat} (h : Bg w b f A c hs m) (k : Keep S w w1) (hb : ¬ S b) (hA : ¬ InB S A) : Bg w1 b f A c hs m :=
  ⟨k.cell h.cmp hb, k.cell h.heap hb, k.cell h.next hb, k.there h.th hb, h.ow.keep k hA, h.apart, fun a ha => Nat.lt_of_lt_of_le (h.old a ha) k.size⟩

theorem Bg.put {w : World} {b : Nat} {f : Value} {ba oa c i m : Nat} {hs : List (Held Item)} (h : Bg w b f (some ⟨ba, oa, none⟩) c hs m) (hi : i < hs.length) (y : Held Item) :
    Bg (w.setCells ba (oa + i * EHI.sz) (EHI.cells y)) b f (some ⟨ba, oa, none⟩) c (hs.set i y) m := by
  have hne : ¬ (b = ba) := fun e => h.apart _ rfl e.symm
  have hk : Keep (fun k => k = ba) w (w.setCells ba (oa + i * EHI.sz) (EHI.cells y)) := (Keep.refl (fun k => k = ba) w).setCells _ _ (fun _ => rfl)
  refine ⟨hk.cell h.cmp hne, ?_, hk.cell h.next hne, hk.there h.th hne, h.ow.put hi y, h.apart, fun a ha => Nat.lt_of_lt_of_le (h.old a ha) hk.size⟩
  rw [List.length_set]
  exact hk.cell h.heap hne

theorem new_ok (k : Nat) (first cap : Array Value) (w : World) :
    Calls Try.prog 33 #[.func (.func k) first cap] w (fun e w' => e = .returned (.pointer (some ⟨w.heap.size, 0, none⟩)) ∧ w' = w.alloc (.cells #[.func (.func k) first cap, .slice none 0 0, .int .i64 0] 61)) := by
  have he := fun (w : World) => run_eql_func_nil (P := Try.prog) w 28 Try.underlying28 (.func k) first cap
  go_enter Try.func33, Try.ntmps33
  go_wp2
  go_ret
  exact ⟨rfl, rfl⟩
theorem new_nil (w : World) : Calls Try.prog 33 #[.nilFunc] w (fun e w' => e = .returned (.pointer none) ∧ w' = w) := by
  have he := fun (w : World) => run_eql_nil_nilFunc (P := Try.prog) w 28 Try.underlying28
  go_enter Try.func33, Try.ntmps33
  go_wp2
  go_ret
  exact ⟨rfl, rfl⟩
theorem there_ok (k : Nat) (first cap : Array Value) (b : Nat) (w : World) (h : w.cell? ⟨b, 0, none⟩ = some (.func (.func k) first cap)) :
    Calls Try.prog 69 #[.pointer (some ⟨b, 0, none⟩)] w (fun e w' => e = .returned (.bool true) ∧ w' = w) := by
  have he := fun (w : World) => run_neq_func_nil (P := Try.prog) w 28 Try.underlying28 (.func k) first cap
  go_enter Try.func69, Try.ntmps69
  go_wp2
  go_ret
  exact ⟨rfl, rfl⟩
theorem there_nil (w : World) : Calls Try.prog 69 #[.pointer none] w (fun e w' => e = .returned (.bool false) ∧ w' = w) := by
  go_enter Try.func69, Try.ntmps69
  go_wp2
  go_ret
  exact ⟨rfl, rfl⟩
theorem there_zero (b : Nat) (w : World) (h : w.cell? ⟨b, 0, none⟩ = some .nilFunc) :
    Calls Try.prog 69 #[.pointer (some ⟨b, 0, none⟩)] w (fun e w' => e = .returned (.bool false) ∧ w' = w) := by
  have he := fun (w : World) => run_neq_nil_nilFunc (P := Try.prog) w 28 Try.underlying28
  go_enter Try.func69, Try.ntmps69
  go_wp2
  go_ret
  exact ⟨rfl, rfl⟩
theorem len_ok {k : Nat} {first cap : Array Value} {w : World} {b : Nat} {A : Option Addr} {c : Nat} {hs : List (Held Item)} {m : Nat} (h : Bg w b (.func (.func k) first cap) A c hs m) :
    Calls Try.prog 38 #[.pointer (some ⟨b, 0, none⟩)] w (fun e w' => e = .returned (.int .i64 (hs.length : Int)) ∧ w' = w) := by
  have HT := Lib.hid (there_ok k first cap b w h.cmp)
  have h1 := h.heap
  clear h
  go_enter Try.func38, Try.ntmps38
  go_wp2_with (go_at_call 69; go_must (refine HT.out.mono ?_); rintro e w2 ⟨rfl, rfl⟩)
  go_ret
  exact ⟨rfl, rfl⟩
theorem len_nil (w : World) : Calls Try.prog 38 #[.pointer none] w (fun e w' => e = .returned (.int .i64 0) ∧ w' = w) := by
  have HT := Lib.hid (there_nil w)
  go_enter Try.func38, Try.ntmps38
  go_wp2_with (go_at_call 69; go_must (refine HT.out.mono ?_); rintro e w2 ⟨rfl, rfl⟩)
  go_ret
  exact ⟨rfl, rfl⟩
theorem len_zero (b : Nat) (w : World) (h : w.cell? ⟨b, 0, none⟩ = some .nilFunc) : Calls Try.prog 38 #[.pointer (some ⟨b, 0, none⟩)] w (fun e w' => e = .returned (.int .i64 0) ∧ w' = w) := by
  have HT := Lib.hid (there_zero b w h)
  clear h
  go_enter Try.func38, Try.ntmps38
  go_wp2_with (go_at_call 69; go_must (refine HT.out.mono ?_); rintro e w2 ⟨rfl, rfl⟩)
  go_ret
  exact ⟨rfl, rfl⟩


set_option maxRecDepth 100000 in
set_option maxHeartbeats 4000000 in
theorem ahead_ok {c : Item → Item → Int} {f : Value} {B : Nat} {S : Nat → Prop} {I : Nat → World → Prop} (hcmp : CmpOk Try.prog EI f c B S I)
   (b n : Nat) (x y : Held Item) (w : World) (hB : B ≤ w.heap.size) (hc : w.cell? ⟨b, 0, none⟩ = some f) (hI : I n w) :
    Calls Try.prog 70 #[.pointer (some ⟨b, 0, none⟩), EHI.val x, EHI.val y] w (fun e w' => e = .returned (.bool (aheadB c x y)) ∧ I (n + 1) w' ∧ Keep S w w') := by
  obtain ⟨k, first, cap, rfl, eg, hcall⟩ := hcmp.fn
  obtain ⟨⟨xk, xn⟩, xo⟩ := x
  obtain ⟨⟨yk, yn⟩, yo⟩ := y
  have HCALL := Lib.hid (fun w' (h : I n w') => hcall n w' (xk, xn) (yk, yn) h)
  have HST := Lib.hid (fun w' (h : Below B w w') => hcmp.stable n w w' hI h)
  have HB := Lib.hid hB
  have HO := Lib.hid hcmp.old
  clear hcmp hcall hI hB
  have hcc : ∀ o1 : Obj, (w.alloc o1).cell? ⟨b, 0, none⟩ = some (.func (.func k) first cap) := fun o1 => ((Keep.refl (fun _ => False) _).alloc _).cell hc (fun h => h)
  have hcc2 : ∀ o1 o2 : Obj, ((w.alloc o1).alloc o2).cell? ⟨b, 0, none⟩ = some (.func (.func k) first cap) := fun o1 o2 => ((Keep.refl (fun _ => False) _).alloc _).cell (hcc o1) (fun h => h)
  simp only [EHI]
  go_enter Try.func70, Try.ntmps70
  go_wp2_with (fail)
  refine wp_region_mid 8 _ rfl rfl (by kernel_rfl) (by kernel_rfl) ?_
  simp only [List.take_succ_cons, List.take_zero]
  repeat still_step
  refine wpStill_nil ?_
  intro K hK
  go_simp
  obtain ⟨wz, HWZ⟩ : ∃ wz, Hid (wz = ((w.alloc (.cells #[.int .i64 xk, .int .i64 xn, .int .i64 xo] 114)).alloc (.cells #[.int .i64 yk, .int .i64 yn, .int .i64 yo] 114)).drew) := ⟨_, Lib.hid rfl⟩
  have hkz : Keep (fun _ => False) w wz := by rw [HWZ.out]; exact (((Keep.refl _ w).alloc _).alloc _).drew
  have hnS : ¬ S w.heap.size := fun h => by have := HO.out _ h; have := HB.out; omega
  have hnS1 : ¬ S (w.heap.size + 1) := fun h => by have := HO.out _ h; have := HB.out; omega
  have hz1 : wz.cell? ⟨w.heap.size, 2, none⟩ = some (.int .i64 xo) := by
    rw [HWZ.out]
    have := range_alloc_new w #[.int .i64 xk, .int .i64 xn, .int .i64 xo] 114 [.int .i64 xk, .int .i64 xn, .int .i64 xo] (fun j v h => by simpa using h) 2 _ rfl
    exact ((((Keep.refl (fun _ => False) _).alloc _).drew).cell this (fun h => h))
  have hz2 : wz.cell? ⟨w.heap.size + 1, 2, none⟩ = some (.int .i64 yo) := by
    rw [HWZ.out]
    have := range_alloc_new (w.alloc (.cells #[.int .i64 xk, .int .i64 xn, .int .i64 xo] 114)) #[.int .i64 yk, .int .i64 yn, .int .i64 yo] 114 [.int .i64 yk, .int .i64 yn, .int .i64 yo] (fun j v h => by simpa using h) 2 _ rfl
    rw [World.size_alloc] at this
    exact (((Keep.refl (fun _ => False) _).drew).cell this (fun h => h))
  rw [← HWZ.out]
  refine (HCALL.out wz (HST.out wz (hkz.below HB.out (fun _ _ h => h)))).mono ?_
  rintro e w3 ⟨rfl, hI1, hk1⟩
  refine hK _ _ ?_
  clear hK K
  have h3a := hk1.cell hz1 hnS
  have h3b := hk1.cell hz2 hnS1
  have HN : Hid (I (n + 1) w3 ∧ Keep S w w3) := ⟨hI1, (hkz.mono (fun _ _ h => h.elim)).then_ hk1⟩
  clear hz1 hz2 hk1 hI1 hkz hcc hcc2 hc
  simp only [List.drop_succ_cons, List.drop_zero]
  refine Veil.out ?_
  repeat (refine veil_step (fun K hK => ?_); go_simp; refine hK _ ?_; clear hK K)
  refine ⟨wpStill_nil ?_⟩
  rcases Int.lt_trichotomy (c (xk, xn) (yk, yn)) 0 with hr | hr | hr
  · go_wp2
    go_ret
    refine ⟨?_, HN.out⟩
    simp [aheadB, hr]
  · have hr1 : ¬ (c (xk, xn) (yk, yn) < 0) := by omega
    rcases Int.lt_or_le xo yo with ho | ho
    · go_wp2
      go_ret
      refine ⟨?_, HN.out⟩
      simp [aheadB, hr, ho]
    · have ho1 : ¬ (xo < yo) := by omega
      go_wp2
      go_ret
      refine ⟨?_, HN.out⟩
      simp [aheadB, hr, ho1]
  · have hr1 : ¬ (c (xk, xn) (yk, yn) < 0) := by omega
    have hr2 : ¬ (c (xk, xn) (yk, yn) = 0) := by omega
    go_wp2
    go_ret
    refine ⟨?_, HN.out⟩
    simp [aheadB, hr1, hr2]
end Go.Proofs.Ytnofckgnnpmiiaa
