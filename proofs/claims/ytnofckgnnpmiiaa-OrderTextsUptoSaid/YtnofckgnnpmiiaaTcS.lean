/- The order of the numbers of a list's elements that Twice hands on, at the type ByteArray. -/
import Derived.Test.YtnofckgnnpmiiaaTc
namespace Go.Proofs.Ytnofckgnnpmiiaa.Str
open Go.RowKit Go.Shelf
attribute [local go_sem ↓] Go.wp_at_zero Go.wp_at_succ

set_option maxHeartbeats 1000000 in
theorem byPlace_calls {c : ByteArray → ByteArray → Int} {B : Nat} {S : Nat → Prop} {I : Nat → World → Prop} {k : Nat} {first cap : Array Value} (eg : ∀ args w, (callFunc k args).run Try.prog w = .ok (.enter k args) w)
   (hcall : ∀ n w x y, I n w → Calls Try.prog k (first ++ (#[ES.val x, ES.val y] ++ cap)) w fun e w' => e = .returned (.int .i64 (c x y)) ∧ I (n + 1) w' ∧ Keep S w w')
   (hst : ∀ n w w', I n w → Below B w w' → I n w') (A : Option Addr) (ca n b2 b3 : Nat) (xs : List ByteArray) (i j : Fin xs.length) (w : World) (h : Sl ES w A ca xs) (hA : ¬ InB S A) (hI : I n w)
   (h2 : w.cell? ⟨b2, 0, none⟩ = some (.slice A xs.length ca)) (h3 : w.cell? ⟨b3, 0, none⟩ = some (.func (.func k) first cap)) (n2 : ¬ S b2) (n3 : ¬ S b3) :
    Calls Try.prog 63 #[.int .i64 (i.1 : Int), .int .i64 (j.1 : Int), .pointer (some ⟨b3, 0, none⟩), .pointer (some ⟨b2, 0, none⟩)] w fun e w' => e = .returned (.int .i64 (c xs[i] xs[j])) ∧ I (n + 1) w' ∧ Keep S w w' := by
  have HK := Lib.hid hcall
  have HI := Lib.hid hI
  have HST := Lib.hid hst
  obtain ⟨b1, o1, rfl, hx⟩ := h.elem i.2
  obtain ⟨b', o', e', hy⟩ := h.elem j.2
  simp only [Option.some.injEq, Addr.mk.injEq, and_true] at e'
  obtain ⟨rfl, rfl⟩ := e'
  have hle := h.le
  have hca := h.cap
  have hS1 : ¬ S b1 := fun h => hA ⟨_, rfl, h⟩
  obtain ⟨x, HX⟩ : ∃ x, Hid (xs[i] = x) := ⟨_, Lib.hid rfl⟩
  obtain ⟨y, HY⟩ : ∃ y, Hid (xs[j] = y) := ⟨_, Lib.hid rfl⟩
  have hx' : w.rangeAt b1 (o1 + i.1 * ES.sz) (ES.cells x) := by rw [← HX.out]; exact hx
  have hy' : w.rangeAt b1 (o1 + j.1 * ES.sz) (ES.cells y) := by rw [← HY.out]; exact hy
  rw [HX.out, HY.out]
  have hx1 := hx' 0 _ rfl
  have hy1 := hy' 0 _ rfl
  have hi1 : ((i.1 : Nat) : Int) < (xs.length : Int) := by have := i.2; omega
  have hj1 : ((j.1 : Nat) : Int) < (xs.length : Int) := by have := j.2; omega
  clear hx hy hx' hy' h hA hI hcall hst
  obtain ⟨i, hi⟩ := i
  obtain ⟨j, hj⟩ := j
  simp only at hx1 hy1 hi1 hj1 ⊢
  simp only [ES, Nat.add_zero, Nat.mul_one] at hx1 hy1
  clear HX HY
  have hi0 : (0 : Int) ≤ (i : Int) := by omega
  have hj0 : (0 : Int) ≤ (j : Int) := by omega
  go_enter Try.func63, Try.ntmps63
  go_wp2_with (fail)
  go_region_held3 (fun w' => w'.cell? ⟨b3, 0, none⟩ = some (.func (.func k) first cap) ∧ w'.cell? ⟨b2, 0, none⟩ = some (.slice (some ⟨b1, o1, none⟩) xs.length ca) ∧ w'.cell? ⟨b1, o1 + i, none⟩ = some (.string x) ∧ w'.cell? ⟨b1, o1 + j, none⟩ = some (.string y))
    (first | go_keep | exact ⟨hk1.cell h3 n3, hk1.cell h2 n2, hk1.cell hx1 hS1, hk1.cell hy1 hS1⟩)
    ((refine (HK.out n _ x y (HST.out _ _ w.drew HI.out (Below.drew (Below.refl _ _)))).mono ?_; rintro e w1 ⟨rfl, hI1, hk1⟩))
  have HK1 := Lib.hid hk1.of_drew
  have HI1 := Lib.hid hI1
  clear hk1 hI1
  go_wp2
  go_ret
  exact ⟨rfl, HI1.out, HK1.out⟩

theorem byPlace_ok {c : ByteArray → ByteArray → Int} {f : Value} {B : Nat} {S : Nat → Prop} {I : Nat → World → Prop} (hcmp : CmpOk Try.prog ES f c B S I) (A : Option Addr) (ca b2 b3 B' : Nat) (xs : List ByteArray)
   (hA : ¬ InB S A) (hB : B ≤ B') (h2 : b2 < B') (h3 : b3 < B') (n2 : ¬ S b2) (n3 : ¬ S b3) (hAB : xs ≠ [] → ∀ a, A = some a → a.block < B') :
    CmpOk Try.prog (EF xs.length) (.func (.func 63) #[] #[.pointer (some ⟨b3, 0, none⟩), .pointer (some ⟨b2, 0, none⟩)]) (byPlace c xs) B' S
      (fun n w => I n w ∧ Sl ES w A ca xs ∧ w.cell? ⟨b2, 0, none⟩ = some (.slice A xs.length ca) ∧ w.cell? ⟨b3, 0, none⟩ = some f) := by
  obtain ⟨k, first, cap, rfl, eg, hcall⟩ := hcmp.fn
  refine ⟨⟨63, #[], _, rfl, enters_of Try.func63 (by kernel_rfl) rfl, ?_⟩, ?_, fun k hk => Nat.lt_of_lt_of_le (hcmp.old k hk) hB⟩
  · rintro n w i j ⟨hI, hs, hc2, hc3⟩
    refine (byPlace_calls eg hcall hcmp.stable A ca n b2 b3 xs i j w hs hA hI hc2 hc3 n2 n3).mono ?_
    rintro e w' ⟨rfl, hI', hk⟩
    exact ⟨rfl, ⟨hI', hs.keep hk hA, hk.cell hc2 n2, hk.cell hc3 n3⟩, hk⟩
  · rintro n w w' ⟨hI, hs, hc2, hc3⟩ hb
    have hk := Keep.of_belowB hb
    exact ⟨hcmp.stable _ _ _ hI (hb.mono hB), hs.keep2 hk (fun hx ⟨a, ha, he⟩ => by have := hAB hx a ha; omega), hk.cell hc2 (by simp only; omega), hk.cell hc3 (by simp only; omega)⟩
end Go.Proofs.Ytnofckgnnpmiiaa.Str
