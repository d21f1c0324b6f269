/- All: its two orders of held elements; what they make of a heap. -/
import Derived.Test.YtnofckgnnpmiiaaBg
import Derived.Test.YtnofckgnnpmiiaaQk
import Derived.Test.YtnofckgnnpmiiaaHl
import Derived.Test.YtnofckgnnpmiiaaCg
import Derived.Test.YtnofckgnnpmiiaaOc
import Derived.Deep.Cut
namespace Go.Proofs.Ytnofckgnnpmiiaa
open Go.RowKit Go.Shelf
attribute [local go_sem ↓] Go.wp_at_zero Go.wp_at_succ

/-- by the number of their coming -/
def byNo (x y : Held Item) : Int := IntKind.i64.wrap (x.2 - y.2)
theorem no_ok (x y : Held Item) (w : World) : Calls Try.prog 73 #[EHI.val x, EHI.val y] w fun e w' => e = .returned (.int .i64 (byNo x y)) ∧ Keep nob w w' := by
  obtain ⟨⟨xk, xn⟩, xo⟩ := x
  obtain ⟨⟨yk, yn⟩, yo⟩ := y
  simp only [EHI, byNo]
  obtain ⟨d, hd⟩ : ∃ d, Hid (IntKind.i64.wrap (xo - yo) = d) := ⟨_, Lib.hid rfl⟩
  have hd' := hd.out
  have HK : Hid (Keep nob w ((w.alloc (.cells #[.int .i64 xk, .int .i64 xn, .int .i64 xo] 114)).alloc (.cells #[.int .i64 yk, .int .i64 yn, .int .i64 yo] 114))) := ((Keep.refl _ w).alloc _).alloc _
  go_enter Try.func73, Try.ntmps73
  go_wp2
  go_ret
  rw [hd.out]
  exact ⟨rfl, HK.out⟩
theorem no_cmp : CmpOk Try.prog EHI (.func (.func 73) #[] #[]) byNo 0 nob anyI :=
  ⟨⟨73, #[], #[], rfl, fun args w => enters_of Try.func73 (by kernel_rfl) rfl args w, fun n w x y _ => (no_ok x y w).mono fun e w' ⟨h1, h2⟩ => ⟨h1, trivial, h2⟩⟩, fun _ _ _ _ _ => trivial, fun _ h => h.elim⟩

/-- where the iterator finds its bag: the box, the bag's order -/
def BoxI (bx bb : Nat) (f : Value) : Nat → World → Prop := fun _ w => w.cell? ⟨bx, 0, none⟩ = some (.pointer (some ⟨bb, 0, none⟩)) ∧ w.cell? ⟨bb, 0, none⟩ = some f
set_option maxRecDepth 100000 in
set_option maxHeartbeats 4000000 in
theorem key_ok {c : Item → Item → Int} {f : Value} {B : Nat} (hcmp : CmpOk Try.prog EI f c B nob anyI) (bx bb : Nat) (x y : Held Item) (w : World) (h : BoxI bx bb f 0 w) :
    Calls Try.prog 74 #[EHI.val x, EHI.val y, .pointer (some ⟨bx, 0, none⟩)] w fun e w' => e = .returned (.int .i64 (c x.1 y.1)) ∧ Keep nob w w' := by
  obtain ⟨k, first, cap, rfl, eg, hcall⟩ := hcmp.fn
  obtain ⟨⟨xk, xn⟩, xo⟩ := x
  obtain ⟨⟨yk, yn⟩, yo⟩ := y
  have HCALL : Hid (∀ w', Calls Try.prog k (first ++ (#[EI.val (xk, xn), EI.val (yk, yn)] ++ cap)) w' fun e w'' => e = .returned (.int .i64 (c (xk, xn) (yk, yn))) ∧ Keep (fun _ => False) w' w'') := fun w' => (hcall 0 w' (xk, xn) (yk, yn) trivial).mono fun e w'' ⟨h1, _, h2⟩ => ⟨h1, h2⟩
  simp only [EI] at HCALL
  obtain ⟨hx, hb⟩ := h
  clear hcmp hcall
  obtain ⟨w1, HW1⟩ : ∃ w1, Hid ((w.alloc (.cells #[.int .i64 xk, .int .i64 xn, .int .i64 xo] 114)).alloc (.cells #[.int .i64 yk, .int .i64 yn, .int .i64 yo] 114) = w1) := ⟨_, Lib.hid rfl⟩
  have HK1 : Hid (Keep (fun _ => False) w w1) := by rw [← HW1.out]; exact ((Keep.refl _ w).alloc _).alloc _
  have x1 : w1.cell? ⟨w.heap.size, 0, none⟩ = some (.int .i64 xk) := by rw [← HW1.out]; simp
  have x2 : w1.cell? ⟨w.heap.size, 1, none⟩ = some (.int .i64 xn) := by rw [← HW1.out]; simp
  have y1 : w1.cell? ⟨w.heap.size + 1, 0, none⟩ = some (.int .i64 yk) := by rw [← HW1.out]; simp
  have y2 : w1.cell? ⟨w.heap.size + 1, 1, none⟩ = some (.int .i64 yn) := by rw [← HW1.out]; simp
  have HF : Hid (∀ w', Keep (fun _ => False) w1 w' → w'.cell? ⟨bx, 0, none⟩ = some (.pointer (some ⟨bb, 0, none⟩)) ∧ w'.cell? ⟨bb, 0, none⟩ = some (.func (.func k) first cap) ∧ w'.cell? ⟨w.heap.size, 0, none⟩ = some (.int .i64 xk) ∧ w'.cell? ⟨w.heap.size, 1, none⟩ = some (.int .i64 xn) ∧ w'.cell? ⟨w.heap.size + 1, 0, none⟩ = some (.int .i64 yk) ∧ w'.cell? ⟨w.heap.size + 1, 1, none⟩ = some (.int .i64 yn)) := fun w' hk =>
    ⟨hk.cell (HK1.out.cell hx (fun h => h)) (fun h => h), hk.cell (HK1.out.cell hb (fun h => h)) (fun h => h), hk.cell x1 (fun h => h), hk.cell x2 (fun h => h), hk.cell y1 (fun h => h), hk.cell y2 (fun h => h)⟩
  clear x1 x2 y1 y2 hx hb
  simp only [EHI]
  go_enter Try.func74, Try.ntmps74
  go_upto_region 1 with (fail)
  rw [HW1.out]
  refine wp_region_kept (by kernel_rfl) (by kernel_rfl) (QV.out ?_)
  repeat (first
    | (refine kq_skip (by rfl) (fun K hK => ?_); go_simp; refine hK _ ?_; clear hK K)
    | (refine kq_want (by rfl) (fun K hK => ?_); first
        | (refine BigFrame.quiet_move _ rfl ?_; go_simp; refine hK _ ?_; clear hK K)
        | (refine kq_still ?_ (fun w' hw' => ?_) ?_; rotate_left; (obtain ⟨c0', c1', c2', c3', c4', c5'⟩ := HF.out w' hw'; go_simp; first | done | exact rfl); go_simp; refine hK _ ?_; clear hK K)
        | (go_simp; apply Exists.intro; refine ⟨fun w' hw' => ?_, hK _ ?_⟩; (first | (refine (HCALL.out w').mono ?_)); rintro e w'' ⟨rfl, hk''⟩; exact ⟨rfl, hw'.then_ hk''⟩; clear hK K)))
  refine ⟨wpQuiet_nil ?_⟩
  intro w3 hk3
  go_wp2_with (fail)
  go_ret
  exact ⟨rfl, HK1.out.then_ hk3⟩
theorem key_cmp {c : Item → Item → Int} {f : Value} {B : Nat} (hcmp : CmpOk Try.prog EI f c B nob anyI) (bx bb M : Nat) (h1 : bx < M) (h2 : bb < M) :
    CmpOk Try.prog EHI (.func (.func 74) #[] #[.pointer (some ⟨bx, 0, none⟩)]) (fun x y => c x.1 y.1) M nob (BoxI bx bb f) :=
  ⟨⟨74, #[], #[.pointer (some ⟨bx, 0, none⟩)], rfl, fun args w => enters_of Try.func74 (by kernel_rfl) rfl args w, fun n w x y h => (key_ok hcmp bx bb x y w h).mono fun e w' ⟨g1, g2⟩ => ⟨g1, ⟨g2.cell h.1 (fun h => h), g2.cell h.2 (fun h => h)⟩, g2⟩⟩,
    fun n w w' h k => by
      have hk : Keep (fun k => M ≤ k) w w' := ⟨k.os, k.tape, k.output, k.size, fun i _ hi => k.block i (by omega)⟩
      exact ⟨hk.cell h.1 (by show ¬ M ≤ bx; omega), hk.cell h.2 (by show ¬ M ≤ bb; omega)⟩, fun _ h => h.elim⟩

/-! ### what they make of a heap -/
/-- numbers that the machine counts rightly -/
def Few (z : Held Item) : Prop := 0 ≤ z.2 ∧ z.2 ≤ 1000000000
def trueNo (x y : Held Item) : Int := x.2 - y.2
theorem trueNo_keyed : Keyed trueNo (·.2) := ⟨fun x y => by unfold trueNo; omega, fun x y => by unfold trueNo; omega⟩
theorem byNo_on (x y : Held Item) (hx : Few x) (hy : Few y) : byNo x y = trueNo x y := by
  unfold byNo trueNo
  unfold Few at hx hy
  rw [IntWalk.i64_left]
  exact IntWalk.wrap64_in _ ⟨by omega, by omega⟩
theorem came_is {hs cs : List (Held Item)} {p : Nat} (hp : hs.Perm cs) (hu : cs.Pairwise (fun a b => a.2 < b.2)) (hf : ∀ z ∈ cs, Few z) (hl : hs.length ≤ 2 ^ p) : stepsL byNo hs p = cs := by
  rw [stepsL_on (P := Few) byNo_on (fun z hz => hf z (hp.mem_iff.1 hz)) p]
  have h := stepsL_sorts trueNo_keyed hs p hl
  refine List.Perm.eq_of_pairwise (le := fun a b => a.2 ≤ b.2) ?_ h.up (hu.imp fun {a b} h => Int.le_of_lt h) (h.perm.trans hp)
  intro a b ha hb h1 h2
  have ha' : a ∈ cs := hp.mem_iff.1 ((h.mem a).1 ha)
  obtain ⟨i, hi, rfl⟩ := List.mem_iff_getElem.1 ha'
  obtain ⟨j, hj, rfl⟩ := List.mem_iff_getElem.1 hb
  rcases Nat.lt_trichotomy i j with h3 | h3 | h3
  · have := List.pairwise_iff_getElem.1 hu i j hi hj h3
    omega
  · subst h3; rfl
  · have := List.pairwise_iff_getElem.1 hu j i hj hi h3
    omega
theorem told_is {c : Item → Item → Int} {κ : Item → Int} (hk : Keyed c κ) (cs : List (Held Item)) {p : Nat} (hl : cs.length ≤ 2 ^ p) : Sorts κ (cs.map (·.1)) ((stepsL (fun x y : Held Item => c x.1 y.1) cs p).map (·.1)) := by
  have hk' : Keyed (fun x y : Held Item => c x.1 y.1) (fun z => κ z.1) := ⟨fun x y => hk.lt x.1 y.1, fun x y => hk.eq x.1 y.1⟩
  have h := stepsL_sorts hk' cs p hl
  refine ⟨?_, fun v => ?_⟩
  · rw [List.pairwise_map]
    exact h.up
  · have := congrArg (List.map (·.1)) (h.same v)
    rw [List.filter_map, List.filter_map]
    exact this
end Go.Proofs.Ytnofckgnnpmiiaa
