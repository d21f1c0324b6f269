/- The order of the numbers of a list's elements that Twice hands on, at the type Item. -/
import Derived.Test.YtnofckgnnpmiiaaSi
namespace Go.Proofs.Ytnofckgnnpmiiaa
open Go.RowKit Go.Shelf
attribute [local go_sem ↓] Go.wp_at_zero Go.wp_at_succ

theorem Keep.of_belowB {B : Nat} {w w' : World} (h : Below B w w') : Keep (fun k => B ≤ k) w w' := ⟨h.os, h.tape, h.output, h.size, fun k _ hs => h.block k (by omega)⟩
theorem Sl.keep2 {α : Type} {E : El α} {w w1 : World} {A : Option Addr} {c : Nat} {xs : List α} {S : Nat → Prop} (h : Sl E w A c xs) (k : Keep S w w1) (hs : xs ≠ [] → ¬ InB S A) : Sl E w1 A c xs :=
  ⟨h.le, h.cap, fun hx => let ⟨b, o, hA, hr⟩ := h.at_ hx; ⟨b, o, hA, k.range hr (fun hb => hs hx ⟨_, hA, hb⟩)⟩⟩

set_option maxHeartbeats 1000000 in
theorem byPlace_calls {c : Item → Item → Int} {B : Nat} {S : Nat → Prop} {I : Nat → World → Prop} {k : Nat} {first cap : Array Value} (eg : ∀ args w, (callFunc k args).run Try.prog w = .ok (.enter k args) w)
   (hcall : ∀ n w x y, I n w → Calls Try.prog k (first ++ (#[EI.val x, EI.val y] ++ cap)) w fun e w' => e = .returned (.int .i64 (c x y)) ∧ I (n + 1) w' ∧ Keep S w w')
   (hst : ∀ n w w', I n w → Below B w w' → I n w') (A : Option Addr) (ca n b2 b3 : Nat) (xs : List Item) (i j : Fin xs.length) (w : World) (h : Sl EI w A ca xs) (hA : ¬ InB S A) (hI : I n w)
   (h2 : w.cell? ⟨b2, 0, none⟩ = some (.slice A xs.length ca)) (h3 : w.cell? ⟨b3, 0, none⟩ = some (.func (.func k) first cap)) (n2 : ¬ S b2) (n3 : ¬ S b3) :
    Calls Try.prog 60 #[.int .i64 (i.1 : Int), .int .i64 (j.1 : Int), .pointer (some ⟨b3, 0, none⟩), .pointer (some ⟨b2, 0, none⟩)] w fun e w' => e = .returned (.int .i64 (c xs[i] xs[j])) ∧ I (n + 1) w' ∧ Keep S w w' := by
  have HK := Lib.hid hcall
  have HI := Lib.hid hI
  have HST := Lib.hid hst
  obtain ⟨b1, o1, rfl, hx⟩ := h.elem i.2
  obtain ⟨b', o', e', hy⟩ := h.elem j.2
  simp only [Option.some.injEq, Addr.mk.injEq, and_true] at e'
  obtain ⟨rfl, rfl⟩ := e'
  have hle := h.le
  have hca := h.cap
  have hS1 : ¬ S b1 := fun h => hA ⟨_, rfl, h⟩
  obtain ⟨x, HX⟩ : ∃ x, Hid (xs[i] = x) := ⟨_, Lib.hid rfl⟩
  obtain ⟨y, HY⟩ : ∃ y, Hid (xs[j] = y) := ⟨_, Lib.hid rfl⟩
  have hx' : w.rangeAt b1 (o1 + i.1 * EI.sz) (EI.cells x) := by rw [← HX.out]; exact hx
  have hy' : w.rangeAt b1 (o1 + j.1 * EI.sz) (EI.cells y) := by rw [← HY.out]; exact hy
  rw [HX.out, HY.out]
  have hx1 := hx' 0 _ rfl
  have hx2 := hx' 1 _ rfl
  have hy1 := hy' 0 _ rfl
  have hy2 := hy' 1 _ rfl
  have hi1 : ((i.1 : Nat) : Int) < (xs.length : Int) := by have := i.2; omega
  have hj1 : ((j.1 : Nat) : Int) < (xs.length : Int) := by have := j.2; omega
  clear hx hy hx' hy' h hA hI hcall hst
  obtain ⟨i, hi⟩ := i
  obtain ⟨j, hj⟩ := j
  simp only at hx1 hx2 hy1 hy2 hi1 hj1 ⊢
  simp only [EI, Nat.add_zero] at hx1 hx2 hy1 hy2
  clear HX HY
  have hi0 : (0 : Int) ≤ (i : Int) := by omega
  have hj0 : (0 : Int) ≤ (j : Int) := by omega
  go_enter Try.func60, Try.ntmps60
  go_wp2_with (fail)
  go_region_held3 (fun w' => w'.cell? ⟨b3, 0, none⟩ = some (.func (.func k) first cap) ∧ w'.cell? ⟨b2, 0, none⟩ = some (.slice (some ⟨b1, o1, none⟩) xs.length ca) ∧ w'.cell? ⟨b1, o1 + i * 2, none⟩ = some (.int .i64 x.1) ∧ w'.cell? ⟨b1, o1 + i * 2 + 1, none⟩ = some (.int .i64 x.2) ∧ w'.cell? ⟨b1, o1 + j * 2, none⟩ = some (.int .i64 y.1) ∧ w'.cell? ⟨b1, o1 + j * 2 + 1, none⟩ = some (.int .i64 y.2))
    (first | go_keep | exact ⟨hk1.cell h3 n3, hk1.cell h2 n2, hk1.cell hx1 hS1, hk1.cell hx2 hS1, hk1.cell hy1 hS1, hk1.cell hy2 hS1⟩)
    ((refine (HK.out n _ x y (HST.out _ _ w.drew HI.out (Below.drew (Below.refl _ _)))).mono ?_; rintro e w1 ⟨rfl, hI1, hk1⟩))
  have HK1 := Lib.hid hk1.of_drew
  have HI1 := Lib.hid hI1
  clear hk1 hI1
  go_wp2
  go_ret
  exact ⟨rfl, HI1.out, HK1.out⟩

/-- the order of places -/
def byPlace {α : Type} (c : α → α → Int) (xs : List α) (i j : Fin xs.length) : Int := c xs[i] xs[j]

theorem byPlace_ok {c : Item → Item → Int} {f : Value} {B : Nat} {S : Nat → Prop} {I : Nat → World → Prop} (hcmp : CmpOk Try.prog EI f c B S I) (A : Option Addr) (ca b2 b3 B' : Nat) (xs : List Item)
   (hA : ¬ InB S A) (hB : B ≤ B') (h2 : b2 < B') (h3 : b3 < B') (n2 : ¬ S b2) (n3 : ¬ S b3) (hAB : xs ≠ [] → ∀ a, A = some a → a.block < B') :
    CmpOk Try.prog (EF xs.length) (.func (.func 60) #[] #[.pointer (some ⟨b3, 0, none⟩), .pointer (some ⟨b2, 0, none⟩)]) (byPlace c xs) B' S
      (fun n w => I n w ∧ Sl EI w A ca xs ∧ w.cell? ⟨b2, 0, none⟩ = some (.slice A xs.length ca) ∧ w.cell? ⟨b3, 0, none⟩ = some f) := by
  obtain ⟨k, first, cap, rfl, eg, hcall⟩ := hcmp.fn
  refine ⟨⟨60, #[], _, rfl, enters_of Try.func60 (by kernel_rfl) rfl, ?_⟩, ?_, fun k hk => Nat.lt_of_lt_of_le (hcmp.old k hk) hB⟩
  · rintro n w i j ⟨hI, hs, hc2, hc3⟩
    refine (byPlace_calls eg hcall hcmp.stable A ca n b2 b3 xs i j w hs hA hI hc2 hc3 n2 n3).mono ?_
    rintro e w' ⟨rfl, hI', hk⟩
    exact ⟨rfl, ⟨hI', hs.keep hk hA, hk.cell hc2 n2, hk.cell hc3 n3⟩, hk⟩
  · rintro n w w' ⟨hI, hs, hc2, hc3⟩ hb
    have hk := Keep.of_belowB hb
    exact ⟨hcmp.stable _ _ _ hI (hb.mono hB), hs.keep2 hk (fun hx ⟨a, ha, he⟩ => by have := hAB hx a ha; omega), hk.cell hc2 (by simp only; omega), hk.cell hc3 (by simp only; omega)⟩
end Go.Proofs.Ytnofckgnnpmiiaa
