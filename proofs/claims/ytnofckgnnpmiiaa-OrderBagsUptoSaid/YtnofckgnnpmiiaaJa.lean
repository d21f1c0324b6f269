import Derived.Test.YtnofckgnnpmiiaaBg
import Derived.Test.YtnofckgnnpmiiaaQk
import Derived.Test.YtnofckgnnpmiiaaHl
import Derived.Test.YtnofckgnnpmiiaaCg
import Derived.Test.YtnofckgnnpmiiaaOc
import Derived.Deep.Cut
import Derived.Test.YtnofckgnnpmiiaaAd
import Derived.Test.YtnofckgnnpmiiaaTk
import Derived.Test.YtnofckgnnpmiiaaNs
import Derived.Test.YtnofckgnnpmiiaaSoH
import Derived.Test.YtnofckgnnpmiiaaSh
/- All: its two orders of held elements; what they make of a heap. -/
namespace Go.Proofs.Ytnofckgnnpmiiaa
open Go.RowKit Go.Shelf
attribute [local go_sem ↓] Go.wp_at_zero Go.wp_at_succ

/-- by the number of their coming -/
def byNo (x y : Held Item) : Int := IntKind.i64.wrap (x.2 - y.2)
theorem no_ok (x y : Held Item) (w : World) : Calls Try.prog 73 #[EHI.val x, EHI.val y] w fun e w' => e = .returned (.int .i64 (byNo x y)) ∧ Keep nob w w' := by
  obtain ⟨⟨xk, xn⟩, xo⟩ := x
  obtain ⟨⟨yk, yn⟩, yo⟩ := y
  simp only [EHI, byNo]
  obtain ⟨d, hd⟩ : ∃ d, Hid (IntKind.i64.wrap (xo - yo) = d) := ⟨_, Lib.hid rfl⟩
  have hd' := hd.out
  have HK : Hid (Keep nob w ((w.alloc (.cells #[.int .i64 xk, .int .i64 xn, .int .i64 xo] 114)).alloc (.cells #[.int .i64 yk, .int .i64 yn, .int .i64 yo] 114))) := ((Keep.refl _ w).alloc _).alloc _
  go_enter Try.func73, Try.ntmps73
  go_wp2
  go_ret
  rw [hd.out]
  exact ⟨rfl, HK.out⟩
theorem no_cmp : CmpOk Try.prog EHI (.func (.func 73) #[] #[]) byNo 0 nob anyI :=
  ⟨⟨73, #[], #[], rfl, fun args w => enters_of Try.func73 (by kernel_rfl) rfl args w, fun n w x y _ => (no_ok x y w).mono fun e w' ⟨h1, h2⟩ => ⟨h1, trivial, h2⟩⟩, fun _ _ _ _ _ => trivial, fun _ h => h.elim⟩

/-- where the iterator finds its bag: the box, the bag's order -/
def BoxI (bx bb : Nat) (f : Value) : Nat → World → Prop := fun _ w => w.cell? ⟨bx, 0, none⟩ = some (.pointer (some ⟨bb, 0, none⟩)) ∧ w.cell? ⟨bb, 0, none⟩ = some f
set_option maxRecDepth 100000 in
set_option maxHeartbeats 4000000 in
theorem key_ok {c : Item → Item → Int} {f : Value} {B : Nat} (hcmp : CmpOk Try.prog EI f c B nob anyI) (bx bb : Nat) (x y : Held Item) (w : World) (h : BoxI bx bb f 0 w) :
    Calls Try.prog 74 #[EHI.val x, EHI.val y, .pointer (some ⟨bx, 0, none⟩)] w fun e w' => e = .returned (.int .i64 (c x.1 y.1)) ∧ Keep nob w w' := by
  obtain ⟨k, first, cap, rfl, eg, hcall⟩ := hcmp.fn
  obtain ⟨⟨xk, xn⟩, xo⟩ := x
  obtain ⟨⟨yk, yn⟩, yo⟩ := y
  have HCALL : Hid (∀ w', Calls Try.prog k (first ++ (#[EI.val (xk, xn), EI.val (yk, yn)] ++ cap)) w' fun e w'' => e = .returned (.int .i64 (c (xk, xn) (yk, yn))) ∧ Keep (fun _ => False) w' w'') := fun w' => (hcall 0 w' (xk, xn) (yk, yn) trivial).mono fun e w'' ⟨h1, _, h2⟩ => ⟨h1, h2⟩
  simp only [EI] at HCALL
  obtain ⟨hx, hb⟩ := h
  clear hcmp hcall
  obtain ⟨w1, HW1⟩ : ∃ w1, Hid ((w.alloc (.cells #[.int .i64 xk, .int .i64 xn, .int .i64 xo] 114)).alloc (.cells #[.int .i64 yk, .int .i64 yn, .int .i64 yo] 114) = w1) := ⟨_, Lib.hid rfl⟩
  have HK1 : Hid (Keep (fun _ => False) w w1) := by rw [← HW1.out]; exact ((Keep.refl _ w).alloc _).alloc _
  have x1 : w1.cell? ⟨w.heap.size, 0, none⟩ = some (.int .i64 xk) := by rw [← HW1.out]; simp
  have x2 : w1.cell? ⟨w.heap.size, 1, none⟩ = some (.int .i64 xn) := by rw [← HW1.out]; simp
  have y1 : w1.cell? ⟨w.heap.size + 1, 0, none⟩ = some (.int .i64 yk) := by rw [← HW1.out]; simp
  have y2 : w1.cell? ⟨w.heap.size + 1, 1, none⟩ = some (.int .i64 yn) := by rw [← HW1.out]; simp
  have HF : Hid (∀ w', Keep (fun _ => False) w1 w' → w'.cell? ⟨bx, 0, none⟩ = some (.pointer (some ⟨bb, 0, none⟩)) ∧ w'.cell? ⟨bb, 0, none⟩ = some (.func (.func k) first cap) ∧ w'.cell? ⟨w.heap.size, 0, none⟩ = some (.int .i64 xk) ∧ w'.cell? ⟨w.heap.size, 1, none⟩ = some (.int .i64 xn) ∧ w'.cell? ⟨w.heap.size + 1, 0, none⟩ = some (.int .i64 yk) ∧ w'.cell? ⟨w.heap.size + 1, 1, none⟩ = some (.int .i64 yn)) := fun w' hk =>
    ⟨hk.cell (HK1.out.cell hx (fun h => h)) (fun h => h), hk.cell (HK1.out.cell hb (fun h => h)) (fun h => h), hk.cell x1 (fun h => h), hk.cell x2 (fun h => h), hk.cell y1 (fun h => h), hk.cell y2 (fun h => h)⟩
  clear x1 x2 y1 y2 hx hb
  simp only [EHI]
  go_enter Try.func74, Try.ntmps74
  go_upto_region 1 with (fail)
  rw [HW1.out]
  refine wp_region_kept (by kernel_rfl) (by kernel_rfl) (QV.out ?_)
  repeat (first
    | (refine kq_skip (by rfl) (fun K hK => ?_); go_simp; refine hK _ ?_; clear hK K)
    | (refine kq_want (by rfl) (fun K hK => ?_); first
        | (refine BigFrame.quiet_move _ rfl ?_; go_simp; refine hK _ ?_; clear hK K)
        | (refine kq_still ?_ (fun w' hw' => ?_) ?_; rotate_left; (obtain ⟨c0', c1', c2', c3', c4', c5'⟩ := HF.out w' hw'; go_simp; first | done | exact rfl); go_simp; refine hK _ ?_; clear hK K)
        | (go_simp; apply Exists.intro; refine ⟨fun w' hw' => ?_, hK _ ?_⟩; (first | (refine (HCALL.out w').mono ?_)); rintro e w'' ⟨rfl, hk''⟩; exact ⟨rfl, hw'.then_ hk''⟩; clear hK K)))
  refine ⟨wpQuiet_nil ?_⟩
  intro w3 hk3
  go_wp2_with (fail)
  go_ret
  exact ⟨rfl, HK1.out.then_ hk3⟩
theorem key_cmp {c : Item → Item → Int} {f : Value} {B : Nat} (hcmp : CmpOk Try.prog EI f c B nob anyI) (bx bb M : Nat) (h1 : bx < M) (h2 : bb < M) :
    CmpOk Try.prog EHI (.func (.func 74) #[] #[.pointer (some ⟨bx, 0, none⟩)]) (fun x y => c x.1 y.1) M nob (BoxI bx bb f) :=
  ⟨⟨74, #[], #[.pointer (some ⟨bx, 0, none⟩)], rfl, fun args w => enters_of Try.func74 (by kernel_rfl) rfl args w, fun n w x y h => (key_ok hcmp bx bb x y w h).mono fun e w' ⟨g1, g2⟩ => ⟨g1, ⟨g2.cell h.1 (fun h => h), g2.cell h.2 (fun h => h)⟩, g2⟩⟩,
    fun n w w' h k => by
      have hk : Keep (fun k => M ≤ k) w w' := ⟨k.os, k.tape, k.output, k.size, fun i _ hi => k.block i (by omega)⟩
      exact ⟨hk.cell h.1 (by show ¬ M ≤ bx; omega), hk.cell h.2 (by show ¬ M ≤ bb; omega)⟩, fun _ h => h.elim⟩

/-! ### what they make of a heap -/
/-- numbers that the machine counts rightly -/
def Few (z : Held Item) : Prop := 0 ≤ z.2 ∧ z.2 ≤ 1000000000
def trueNo (x y : Held Item) : Int := x.2 - y.2
theorem trueNo_keyed : Keyed trueNo (·.2) := ⟨fun x y => by unfold trueNo; omega, fun x y => by unfold trueNo; omega⟩
theorem byNo_on (x y : Held Item) (hx : Few x) (hy : Few y) : byNo x y = trueNo x y := by
  unfold byNo trueNo
  unfold Few at hx hy
  rw [IntWalk.i64_left]
  exact IntWalk.wrap64_in _ ⟨by omega, by omega⟩
theorem came_is {hs cs : List (Held Item)} {p : Nat} (hp : hs.Perm cs) (hu : cs.Pairwise (fun a b => a.2 < b.2)) (hf : ∀ z ∈ cs, Few z) (hl : hs.length ≤ 2 ^ p) : stepsL byNo hs p = cs := by
  rw [stepsL_on (P := Few) byNo_on (fun z hz => hf z (hp.mem_iff.1 hz)) p]
  have h := stepsL_sorts trueNo_keyed hs p hl
  refine List.Perm.eq_of_pairwise (le := fun a b => a.2 ≤ b.2) ?_ h.up (hu.imp fun {a b} h => Int.le_of_lt h) (h.perm.trans hp)
  intro a b ha hb h1 h2
  have ha' : a ∈ cs := hp.mem_iff.1 ((h.mem a).1 ha)
  obtain ⟨i, hi, rfl⟩ := List.mem_iff_getElem.1 ha'
  obtain ⟨j, hj, rfl⟩ := List.mem_iff_getElem.1 hb
  rcases Nat.lt_trichotomy i j with h3 | h3 | h3
  · have := List.pairwise_iff_getElem.1 hu i j hi hj h3
    omega
  · subst h3; rfl
  · have := List.pairwise_iff_getElem.1 hu j i hj hi h3
    omega
theorem told_is {c : Item → Item → Int} {κ : Item → Int} (hk : Keyed c κ) (cs : List (Held Item)) {p : Nat} (hl : cs.length ≤ 2 ^ p) : Sorts κ (cs.map (·.1)) ((stepsL (fun x y : Held Item => c x.1 y.1) cs p).map (·.1)) := by
  have hk' : Keyed (fun x y : Held Item => c x.1 y.1) (fun z => κ z.1) := ⟨fun x y => hk.lt x.1 y.1, fun x y => hk.eq x.1 y.1⟩
  have h := stepsL_sorts hk' cs p hl
  refine ⟨?_, fun v => ?_⟩
  · rw [List.pairwise_map]
    exact h.up
  · have := congrArg (List.map (·.1)) (h.same v)
    rw [List.filter_map, List.filter_map]
    exact this
end Go.Proofs.Ytnofckgnnpmiiaa

/- A bag of Items in the words of what is in it, as it came: New, Len, Add, Take, also of a bag that is empty, nil or zero. -/
namespace Go.Proofs.Ytnofckgnnpmiiaa
open Go.RowKit Go.Shelf
attribute [local go_sem ↓] Go.wp_at_zero Go.wp_at_succ

abbrev byV (o : Int) : Value := .func (.func (byF o)) #[] #[]
/-- the bag in block bb, its heap at A, holds cs as they came, under order o; m is the number of the next one -/
def BL (o : Int) (bb : Nat) (A : Option Addr) (m : Nat) (cs : List (Held Item)) (w : World) : Prop :=
  ∃ ca hs, Bg w bb (byV o) A ca hs m ∧ IsHeap (byC o) hs ∧ hs.Perm cs ∧ cs.Pairwise (fun a b => a.2 < b.2) ∧ ∀ z ∈ cs, 0 ≤ z.2 ∧ z.2 < (m : Int)

section
variable {o : Int} {bb m : Nat} {A : Option Addr} {cs : List (Held Item)} {w w' : World}
theorem BL.keep {S : Nat → Prop} (h : BL o bb A m cs w) (k : Keep S w w') (hb : ¬ S bb) (hA : ¬ InB S A) : BL o bb A m cs w' := by
  obtain ⟨ca, hs, h1, h2⟩ := h
  exact ⟨ca, hs, h1.keep k hb hA, h2⟩
theorem BL.new (w : World) : BL o w.heap.size none 0 [] (w.alloc (.cells #[byV o, .slice none 0 0, .int .i64 0] 61)) :=
  ⟨0, [], ⟨by simp, by simp, by simp, there_alloc_new w _ _ 3 (Nat.le_refl _), Ow.nil_ EHI _ none, fun a h => by simp at h, fun a h => by simp at h⟩, IsHeap.nil, .refl _, .nil, fun z h => by simp at h⟩
theorem BL.lt (h : BL o bb A m cs w) : bb < w.heap.size := by
  obtain ⟨ca, hs, h1, _⟩ := h
  exact World.block_lt_of_cell? w _ h1.cmp
theorem BL.few (h : BL o bb A m cs w) (hm : m ≤ 1000000000) : ∀ z ∈ cs, Few z := by
  obtain ⟨ca, hs, _, _, _, _, h5⟩ := h
  intro z hz
  have := h5 z hz
  exact ⟨this.1, by omega⟩
theorem BL.old (h : BL o bb A m cs w) : ∀ a, A = some a → a.block < w.heap.size ∧ a.block ≠ bb := by
  obtain ⟨ca, hs, h1, _⟩ := h
  exact fun a ha => ⟨h1.old a ha, h1.apart a ha⟩
theorem BL.len (h : BL o bb A m cs w) : Calls Try.prog 38 #[.pointer (some ⟨bb, 0, none⟩)] w fun e w' => e = .returned (.int .i64 (cs.length : Int)) ∧ w' = w := by
  obtain ⟨ca, hs, h1, _, h3, _⟩ := h
  have := len_ok h1
  rw [h3.length_eq] at this
  exact this
theorem heldFrom_lt : ∀ (xs : List Item) (m : Int) (a : Held Item), a ∈ heldFrom m xs → a.2 < m + xs.length
  | [], _, _, h => by simp [heldFrom] at h
  | x :: xs, m, a, h => by
    rw [heldFrom] at h
    rcases List.mem_cons.1 h with rfl | h
    · simp only [List.length_cons]; omega
    · have := heldFrom_lt xs (m + 1) a h
      rw [List.length_cons]
      omega
theorem heldFrom_map : ∀ (xs : List Item) (m : Int), (heldFrom m xs).map (·.1) = xs
  | [], _ => rfl
  | x :: xs, m => by rw [heldFrom, List.map_cons, heldFrom_map xs (m + 1)]
theorem heldFrom_len (xs : List Item) (m : Int) : (heldFrom m xs).length = xs.length := by
  have := congrArg List.length (heldFrom_map xs m)
  rwa [List.length_map] at this
/-- what Add may write: the bag, its heap -/
abbrev Mb (bb : Nat) (A : Option Addr) : Nat → Prop := fun k => k = bb ∨ AtB A k
set_option maxRecDepth 100000 in
theorem add_empty {k : Nat} {first cap : Array Value} {w : World} {b cx : Nat} {A X : Option Addr} {c m : Nat} {hs : List (Held Item)} (h : Bg w b (.func (.func k) first cap) A c hs m) :
    Calls Try.prog 40 #[.pointer (some ⟨b, 0, none⟩), .slice X 0 cx] w (fun e w' => e = .returned (.tuple #[]) ∧ w' = w) := by
  have HT := Lib.hid (there_ok k first cap b w h.cmp)
  clear h
  go_enter Try.func40, Try.ntmps40
  go_wp2_with (go_at_call 69; go_must (refine HT.out.mono ?_); rintro e w2 ⟨rfl, hw2⟩; replace hw2 := hw2.symm; subst hw2)
  go_loopw [13] (fun u13 wr => u13 = .int .i64 0 ∧ Hid (wr = w)) (fun _ _ => 0)
  case atStart => exact ⟨rfl, rfl⟩
  case round =>
    obtain ⟨rfl, HW⟩ := hrel
    have hlt : ¬ ((0 : Int) < 0) := by omega
    go_wp2_with (fail)
    refine bodyPost_end (results_none rfl _ _ _) rfl ?_
    exact ⟨rfl, HW.out⟩
theorem BL.add (h : BL o bb A m cs w) (X : Option Addr) (cx L : Nat) (xs : List Item) (hL : xs.length = L) (hx : Sl EI w X cx xs) (hX : xs ≠ [] → ∀ a, X = some a → ¬ Mb bb A a.block) (hl : cs.length + L ≤ 1000000000) (hm : m + L ≤ 1000000000) :
    Calls Try.prog 40 #[.pointer (some ⟨bb, 0, none⟩), .slice X L cx] w fun e w' => e = .returned (.tuple #[]) ∧ ∃ A', BL o bb A' (m + L) (cs ++ heldFrom (m : Int) xs) w' ∧ (∀ a, A' = some a → AtB A a.block ∨ w.heap.size ≤ a.block) ∧ Keep (Mb bb A) w w' := by
  subst hL
  obtain ⟨ca, hs, h1, h2, h3, h4, h5⟩ := h
  have hn := h3.length_eq
  by_cases hne : xs = []
  · subst hne
    refine (add_empty h1).mono ?_
    rintro e w' ⟨he, rfl⟩
    exact ⟨he, A, ⟨ca, hs, h1, h2, by rw [heldFrom, List.append_nil]; exact h3, by rw [heldFrom, List.append_nil]; exact h4, by rw [heldFrom, List.append_nil]; exact h5⟩, fun a ha => .inl ⟨a, ha, rfl⟩, Keep.refl _ _⟩
  refine (add_ok (byOk o) bb 0 m (hs.length + xs.length) A X ca cx hs xs w (Nat.zero_le _) h1 (Nat.zero_le _) (fun _ _ => Nat.zero_le _) hx (fun a ha hk => ?_) trivial (by omega) hm (Nat.le_of_lt Nat.lt_two_pow_self)).mono ?_
  · rcases hk with hk | hk
    · exact hk
    · exact hX hne a ha hk
  · rintro e w' ⟨he, A', ca', g1, g2, g3, _⟩
    refine ⟨he, A', ⟨ca', _, g1, addL_heap (byC_keyed o) xs hs _ h2, (addL_perm xs hs _).trans (h3.append_right _), ?_, ?_⟩, g2, g3.mono (fun k _ hk => hk.elim (fun h => h.elim) id)⟩
    · rw [List.pairwise_append]
      refine ⟨h4, heldFrom_up xs _, fun a ha b hb => ?_⟩
      have := (h5 a ha).2
      have := heldFrom_le xs _ b hb
      omega
    · intro z hz
      rcases List.mem_append.1 hz with hz | hz
      · have := h5 z hz
        omega
      · have := heldFrom_le xs _ z hz
        have := heldFrom_lt xs _ z hz
        omega
theorem BL.take_some (h : BL o bb A m cs w) (hne : cs ≠ []) (hl : cs.length ≤ 1000000000) :
    Calls Try.prog 41 #[.pointer (some ⟨bb, 0, none⟩)] w fun e w' => ∃ z, z ∈ cs ∧ (∀ y ∈ cs, leH (byC o) z y) ∧ e = .returned (.tuple #[EI.val z.1, .bool true]) ∧ BL o bb A m (cs.erase z) w' ∧ Keep (Mb bb A) w w' := by
  obtain ⟨ca, hs, h1, h2, h3, h4, h5⟩ := h
  have hn := h3.length_eq
  have hpos : 0 < cs.length := List.length_pos_iff.2 hne
  refine (take_ok (byOk o) bb 0 m hs.length A ca hs w (Nat.zero_le _) h1 (Nat.zero_le _) (fun _ _ => Nat.zero_le _) (by omega) trivial (by omega) (Nat.le_of_lt Nat.lt_two_pow_self)).mono ?_
  rintro e w' ⟨⟨h0, hr, e0, he⟩, g1, g2, _⟩
  subst e0
  have hm0 : h0 ∈ cs := h3.mem_iff.1 List.mem_cons_self
  refine ⟨h0, hm0, fun y hy => ?_, he, ⟨ca, _, g1, takeL_heap (byC_keyed o) h2, ?_, h4.sublist List.erase_sublist, fun z hz => h5 z (List.mem_of_mem_erase hz)⟩, g2.mono (fun k _ hk => hk.elim (fun h => h.elim) id)⟩
  · obtain ⟨i, hi, e⟩ := List.mem_iff_getElem.1 (h3.mem_iff.2 hy)
    exact h2.top (byC_keyed o) (t := h0) rfl i y (by rw [← e]; exact List.getElem?_eq_getElem hi)
  · refine takeL_perm.trans ?_
    have := h3.erase h0
    rwa [List.erase_cons_head] at this
end

set_option maxRecDepth 100000 in
theorem take_empty {k : Nat} {first cap : Array Value} {w : World} {b : Nat} {A : Option Addr} {c m : Nat} (h : Bg w b (.func (.func k) first cap) A c [] m) :
    Calls Try.prog 41 #[.pointer (some ⟨b, 0, none⟩)] w (fun e w' => e = .returned (.tuple #[EI.val (0, 0), .bool false]) ∧ Keep nob w w') := by
  obtain ⟨w1, HW1⟩ : ∃ w1, Hid (w1 = (w.alloc (.cells #[.int .i64 0, .int .i64 0] 27)).alloc (.cells #[.int .i64 0, .int .i64 0] 27)) := ⟨_, Lib.hid rfl⟩
  have HK : Hid (Keep nob w w1) := by rw [HW1.out]; exact ((Keep.refl _ _).alloc _).alloc _
  have HT := Lib.hid (there_ok k first cap b w1 (HK.out.cell h.cmp (fun h => h)))
  have h1 := HK.out.cell h.heap (fun h => h)
  simp only [List.length_nil] at h1
  have z1 : w1.cell? ⟨w.heap.size, 0, none⟩ = some (.int .i64 0) := by rw [HW1.out]; simp
  have z2 : w1.cell? ⟨w.heap.size, 1, none⟩ = some (.int .i64 0) := by rw [HW1.out]; simp
  have z3 : w1.cell? ⟨w.heap.size + 1, 0, none⟩ = some (.int .i64 0) := by rw [HW1.out]; simp
  have z4 : w1.cell? ⟨w.heap.size + 1, 1, none⟩ = some (.int .i64 0) := by rw [HW1.out]; simp
  have f1 : w1.frozen? ⟨w.heap.size, 0, none⟩ = false := by rw [HW1.out]; simp
  have f2 : w1.frozen? ⟨w.heap.size, 1, none⟩ = false := by rw [HW1.out]; simp
  have HE := Lib.hid HW1.out.symm
  clear h
  go_enter Try.func41, Try.ntmps41
  go_wp2_with (first
    | (rw [HE.out]; go_at_call 69; go_must (refine HT.out.mono ?_); rintro e w2 ⟨rfl, hw⟩; replace hw := hw.symm; subst hw))
  refine bodyPost_ret (v := .tuple #[.agg #[.int .i64 0, .int .i64 0], .bool false]) ((results_cell_tmp rfl _ _ _).trans ?_) rfl ?_
  · go_simp
  · refine ⟨rfl, HK.out.trans (S' := fun k => k = w.heap.size) (((Keep.refl (fun k => k = w.heap.size) w1).setCell (fun _ => rfl) _).setCell (fun _ => rfl) _) (fun k h1 h2 => by omega)⟩
theorem take_not (b : Option Addr) (w : World) (hT : ∀ w', Keep nob w w' → Calls Try.prog 69 #[.pointer b] w' (fun e w'' => e = .returned (.bool false) ∧ w'' = w')) :
    Calls Try.prog 41 #[.pointer b] w (fun e w' => e = .returned (.tuple #[EI.val (0, 0), .bool false]) ∧ Keep nob w w') := by
  obtain ⟨w1, HW1⟩ : ∃ w1, Hid (w1 = (w.alloc (.cells #[.int .i64 0, .int .i64 0] 27)).alloc (.cells #[.int .i64 0, .int .i64 0] 27)) := ⟨_, Lib.hid rfl⟩
  have HK : Hid (Keep nob w w1) := by rw [HW1.out]; exact ((Keep.refl _ _).alloc _).alloc _
  have HT := Lib.hid (hT w1 HK.out)
  have z1 : w1.cell? ⟨w.heap.size, 0, none⟩ = some (.int .i64 0) := by rw [HW1.out]; simp
  have z2 : w1.cell? ⟨w.heap.size, 1, none⟩ = some (.int .i64 0) := by rw [HW1.out]; simp
  have z3 : w1.cell? ⟨w.heap.size + 1, 0, none⟩ = some (.int .i64 0) := by rw [HW1.out]; simp
  have z4 : w1.cell? ⟨w.heap.size + 1, 1, none⟩ = some (.int .i64 0) := by rw [HW1.out]; simp
  have f1 : w1.frozen? ⟨w.heap.size, 0, none⟩ = false := by rw [HW1.out]; simp
  have f2 : w1.frozen? ⟨w.heap.size, 1, none⟩ = false := by rw [HW1.out]; simp
  have HE := Lib.hid HW1.out.symm
  clear hT
  go_enter Try.func41, Try.ntmps41
  go_wp2_with (first
    | (rw [HE.out]; go_at_call 69; go_must (refine HT.out.mono ?_); rintro e w2 ⟨rfl, hw⟩; replace hw := hw.symm; subst hw))
  refine bodyPost_ret (v := .tuple #[.agg #[.int .i64 0, .int .i64 0], .bool false]) ((results_cell_tmp rfl _ _ _).trans ?_) rfl ?_
  · go_simp
  · refine ⟨rfl, HK.out.trans (S' := fun k => k = w.heap.size) (((Keep.refl (fun k => k = w.heap.size) w1).setCell (fun _ => rfl) _).setCell (fun _ => rfl) _) (fun k h1 h2 => by omega)⟩
theorem add_not (b : Option Addr) (X : Value) (w : World) (hT : Calls Try.prog 69 #[.pointer b] w (fun e w'' => e = .returned (.bool false) ∧ w'' = w)) :
    Calls Try.prog 40 #[.pointer b, X] w (fun e w' => e = .returned (.tuple #[]) ∧ w' = w) := by
  have HT := Lib.hid hT
  clear hT
  go_enter Try.func40, Try.ntmps40
  go_wp2_with (go_at_call 69; go_must (refine HT.out.mono ?_); rintro e w2 ⟨rfl, hw⟩; replace hw := hw.symm; subst hw)
  refine bodyPost_ret (results_none rfl _ _ _) rfl ?_
  exact ⟨rfl, rfl⟩
theorem BL.take_none {o : Int} {bb m : Nat} {A : Option Addr} {w : World} (h : BL o bb A m [] w) : Calls Try.prog 41 #[.pointer (some ⟨bb, 0, none⟩)] w (fun e w' => e = .returned (.tuple #[EI.val (0, 0), .bool false]) ∧ Keep nob w w') := by
  obtain ⟨ca, hs, h1, -, h3, -⟩ := h
  obtain rfl := h3.eq_nil
  exact take_empty h1
end Go.Proofs.Ytnofckgnnpmiiaa

/- All: a bag's iterator tells the elements in order; what a round may write meanwhile. -/
namespace Go.Proofs.Ytnofckgnnpmiiaa
open Go.RowKit Go.Shelf
attribute [local go_sem] Oper.semAt_some

/-- what a round may write: T's blocks, and the block of the slice that lies in cell j of block b -/
def Wr (T : Nat → Prop) (b j : Nat) (W : World) (k : Nat) : Prop := T k ∨ ∃ A n c, W.cell? ⟨b, j, none⟩ = some (.slice A n c) ∧ AtB A k
/-- no more was written -/
structure RW (T : Nat → Prop) (b j : Nat) (W W' : World) : Prop where
  size : W.heap.size ≤ W'.heap.size
  block : ∀ (k : Nat) (o : Obj), W.heap[k]? = some o → o.isCells = true → ¬ Wr T b j W k → W'.heap[k]? = some o
  own : ∀ k, k < W.heap.size → Wr T b j W' k → Wr T b j W k
namespace RW
variable {T : Nat → Prop} {b j : Nat} {A B C W W' : World}
theorem refl (W : World) : RW T b j W W := ⟨Nat.le_refl _, fun _ _ h _ _ => h, fun _ _ h => h⟩
theorem trans (h : RW T b j A B) (k : RW T b j B C) : RW T b j A C :=
  ⟨Nat.le_trans h.size k.size, fun i o hi ho hn => k.block i o (h.block i o hi ho hn) ho (fun hw => hn (h.own i (Array.getElem?_eq_some_iff.1 hi).1 hw)),
    fun i hi hw => h.own i hi (k.own i (Nat.lt_of_lt_of_le hi h.size) hw)⟩
theorem of_keep (k : Keep (Wr T b j W) W W') (ho : ∀ i, i < W.heap.size → Wr T b j W' i → Wr T b j W i) : RW T b j W W' :=
  ⟨k.size, fun i _ hi _ hn => (k.block i (Array.getElem?_eq_some_iff.1 hi).1 hn).trans hi, ho⟩
theorem of_kept (k : Keep (fun _ => False) W W') (hb : b < W.heap.size) : RW T b j W W' :=
  of_keep (k.mono (fun _ _ h => h.elim)) (fun _ _ hw => hw.elim .inl (fun ⟨A, n, c, h1, h2⟩ => .inr ⟨A, n, c, (World.cell?_of_block (w := W) (a := ⟨b, j, none⟩) (k.block b hb (fun h => h))).symm.trans h1, h2⟩))
theorem putObj {B : Nat} (hb : b < B) (W : World) (l : Nat) (o o' : Obj) (hl : B ≤ l) (h : W.heap[l]? = some o) (hc : o.isCells = false) (_ : o.isWalk = false) : RW T b j W (W.putObj l o') := by
  have hlt := (Array.getElem?_eq_some_iff.1 h).1
  have hg := grownBy_putObj' W l o'
  refine ⟨hg.size, fun k o2 hk ho _ => ?_, fun k _ hw => ?_⟩
  · refine (hg.block k (Array.getElem?_eq_some_iff.1 hk).1 (fun e => ?_)).trans hk
    obtain rfl := Option.some.inj e
    rw [h] at hk
    obtain rfl := Option.some.inj hk
    rw [hc] at ho
    cases ho
  · rcases hw with hw | ⟨A, n, c, h1, h2⟩
    · exact .inl hw
    · refine .inr ⟨A, n, c, ?_, h2⟩
      rw [← h1]
      exact (World.cell?_of_block (w := W) (a := ⟨b, j, none⟩) (hg.block b (by omega) (fun e => by have := Option.some.inj e; omega))).symm
theorem sl {α : Type} {E : El α} {a : Option Addr} {c : Nat} {xs : List α} (h : RW T b j W W') (s : Sl E W a c xs) (hn : xs ≠ [] → ∀ p, a = some p → ¬ Wr T b j W p.block) : Sl E W' a c xs := by
  refine ⟨s.le, s.cap, fun hx => ?_⟩
  obtain ⟨b', o, rfl, hr⟩ := s.at_ hx
  refine ⟨b', o, rfl, fun i v hv => ?_⟩
  have hc := hr i v hv
  obtain ⟨ob, h1, h2⟩ := cells_of_cell hc
  exact (World.cell?_of_block (w := W) (a := ⟨b', o + i, none⟩) ((h.block b' ob h1 h2 (hn hx _ rfl)).trans h1.symm)).trans hc
theorem far {α : Type} {E : El α} {a : Option Addr} {c : Nat} {xs : List α} (h : RW T b j W W') (s : Sl E W a c xs) (hn : xs ≠ [] → ∀ p, a = some p → ¬ Wr T b j W p.block) : xs ≠ [] → ∀ p, a = some p → ¬ Wr T b j W' p.block := fun hx p hp hw =>
  hn hx p hp (h.own _ (s.lt hx p hp) hw)
end RW
theorem Keep.grownBy {w w' : World} (k : Keep (fun _ => False) w w') : w.grownBy w' none := ⟨k.os, k.tape, k.output, k.size, fun i hi _ => k.block i hi (fun h => h)⟩
theorem AbidesFrom.kept {β : Type} {B : Nat} {J : β → World → Prop} (h : AbidesFrom B J) {s : β} {w w' : World} (hs : J s w) (k : Keep (fun _ => False) w w') : J s w' :=
  h s w w' none hs k.grownBy (fun r e => by cases e)

set_option maxRecDepth 100000 in
set_option maxHeartbeats 8000000 in
theorem all_in {o : Int} {bb m bx : Nat} {A : Option Addr} {cs : List (Held Item)} {W : World} (n l : Nat) (J Jx : List Item → World → Prop) (zl : List Item) (T : Nat → Prop) (b j : Nat)
   (h : BL o bb A m cs W) (hm : m ≤ 1000000000) (hlen : cs.length ≤ 1000000000) (hbx : W.cell? ⟨bx, 0, none⟩ = some (.pointer (some ⟨bb, 0, none⟩))) (hz : Sorts (kap o) (cs.map (·.1)) zl)
   (hold : ∀ k, Wr T b j W k → k < W.heap.size) (hb : b < W.heap.size) (hJ : AbidesFrom W.heap.size J)
   (hY : ∀ pre x W1, J pre W1 → pre.length < zl.length → YieldAt Fence.wide (n - 1) Try.prog l #[EI.val x] W1 fun e W' => (e = .returned (.bool true) ∧ J (pre ++ [x]) W' ∧ RW T b j W1 W') ∨ (e = .returned (.bool false) ∧ Jx (pre ++ [x]) W'))
   (h0 : J [] W) : CallsIn Fence.wide n Try.prog 71 #[.func (.yield l) #[] #[], .pointer (some ⟨bx, 0, none⟩)] W fun e W' => (∃ v, e = .returned v) ∧ ((∃ ys, ys = zl ∧ J ys W') ∨ (∃ pre, pre <+: zl ∧ Jx pre W')) := by
  have hfew := h.few hm
  obtain ⟨ca, hs, h1, h2, h3, h4, h5⟩ := h
  have hn := h3.length_eq
  obtain ⟨L, HL⟩ : ∃ L, Hid (cs.length = L) := ⟨_, Lib.hid rfl⟩
  have HLL : Hid (L ≤ 1000000000) := by unfold Hid; rw [← HL.out]; exact hlen
  have hLb : (L : Int) ≤ 1000000000 := by have := HLL.out; omega
  have hc1 := h1.cmp
  have hc2 := h1.heap
  have hbw : bb < W.heap.size := World.block_lt_of_cell? W _ h1.cmp
  have hxw : bx < W.heap.size := World.block_lt_of_cell? W _ hbx
  rw [hn, HL.out] at hc2
  have HT := Lib.hid (there_ok (byF o) #[] #[] bb W hc1)
  have HS1 : Hid (Calls Try.prog 72 #[.slice A L ca, .func (.func 73) #[] #[]] W fun e w' => ∃ A' c', e = .returned (.slice A' L c') ∧ Sl EHI w' A' c' cs ∧ Keep nob W w') := by
    have := sort_H no_cmp A ca 0 hs W (Nat.zero_le _) h1.ow.sl (by omega) trivial
    rw [hn, HL.out] at this
    refine this.mono ?_
    rintro e w' ⟨A', c', p, he, ho, hp, -, -, hk, -⟩
    rw [hn, HL.out] at he
    rw [came_is h3 h4 hfew hp] at ho
    exact ⟨A', c', he, ho.sl, hk⟩
  have HS2 : Hid (∀ w' A' c', Keep nob W w' → Sl EHI w' A' c' cs → Calls Try.prog 72 #[.slice A' L c', .func (.func 74) #[] #[.pointer (some ⟨bx, 0, none⟩)]] w' fun e w'' => ∃ A2 c2 zs, e = .returned (.slice A2 L c2) ∧ zs.length = L ∧ zs.map (·.1) = zl ∧ Sl EHI w'' A2 c2 zs ∧ (∀ a, A2 = some a → W.heap.size ≤ a.block) ∧ Keep nob W w'') := fun w' A' c' hk hs' => by
    have := sort_H (key_cmp (byOk o) bx bb W.heap.size hxw hbw) A' c' 0 cs w' hk.size hs' hlen ⟨hk.cell hbx (fun h => h), hk.cell hc1 (fun h => h)⟩
    rw [HL.out] at this
    refine this.mono ?_
    rintro e w'' ⟨A2, c2, p, he, ho, hp, -, hf, hk', -⟩
    rw [HL.out] at he
    exact ⟨A2, c2, _, he, by rw [stepsL_len, HL.out], (told_is (byC_keyed o) cs hp).unique hz, ho.sl, fun a ha => Nat.le_trans hk.size (hf a ha), hk.then_ hk'⟩
  have HZL : Hid (zl.length = L) := by unfold Hid; rw [hz.perm.length_eq, List.length_map, HL.out]
  have HJ := Lib.hid hJ
  have HY := Lib.hid hY
  have H0 := Lib.hid h0
  have HO := Lib.hid hold
  have HBW := Lib.hid hb
  clear h1 h2 h3 h4 h5 hn hlen hz hold hb hJ hY h0 hfew hm hbw hxw
  refine callsIn_of_wp Try.func71 rfl trivial ?_ rfl
  simp only [Try.ntmps71, List.size_toArray, List.length_cons, List.length_nil, Nat.reduceAdd, Nat.reduceSub, Array.replicate_succ, Array.replicate_zero, List.push_toArray, List.append_toArray, List.nil_append, List.cons_append]
  have tok := Lib.hid True.intro
  gi_wp2_with (first
    | (refine ⟨trivial, fun h => absurd h (by simp [Fence.wide]), ?_⟩; gi_at_call 69; refine callsIn_wide.2 (HT.out.mono ?_); rintro e w2 ⟨rfl, hw⟩; replace hw := hw.symm; subst hw; dsimp only)
    | (refine ⟨trivial, fun h => absurd h (by simp [Fence.wide]), ?_⟩; gi_at_call 72; have _t := tok; refine callsIn_wide.2 (HS1.out.mono ?_); rintro e w2 ⟨A1, c1, rfl, hs, hk⟩; dsimp only; have HA1 := Lib.hid hs; have HK1 := Lib.hid hk; clear hs hk _t tok)
    | (refine ⟨trivial, fun h => absurd h (by simp [Fence.wide]), ?_⟩; gi_at_call 72; refine callsIn_wide.2 ((HS2.out w2 A1 c1 HK1.out HA1.out).mono ?_); rintro e w3 ⟨A2, c2, zs, rfl, hzl, hzm, hs, hf, hk⟩; dsimp only; have HZS := Lib.hid hzl; have HZM := Lib.hid hzm; have HA2 := Lib.hid hs; have HF2 := Lib.hid hf; have HK2 := Lib.hid hk; clear hs hk hzl hzm hf))
  have HF3 : Hid (zs ≠ [] → ∀ p, A2 = some p → ¬ Wr T b j w3 p.block) := fun _ p hp hw => by
    have h1 := HF2.out p hp
    have h2 := HO.out p.block (hw.elim .inl (fun ⟨A, n, c, g1, g2⟩ => .inr ⟨A, n, c, (World.cell?_of_block (w := W) (a := ⟨b, j, none⟩) (HK2.out.block b HBW.out (fun h => h))).symm.trans g1, g2⟩))
    omega
  have HJ3 : Hid (J [] w3) := AbidesFrom.kept HJ.out H0.out HK2.out
  have HB3 : Hid (b < w3.heap.size) := Nat.lt_of_lt_of_le HBW.out HK2.out.size
  have hcs := HA2.out.le
  have hcc := HA2.out.cap
  rw [HZS.out] at hcs
  clear HS1 HS2 HT HA1 HK1 HF2 HK2 HO H0 hbx hc1 hc2
  gi_loopw [18] (fun i wr => ∃ k : Nat, k ≤ L ∧ i = .int .i64 (k : Int) ∧ Hid (J (zl.take k) wr) ∧ Hid (Sl EHI wr A2 c2 zs) ∧ Hid (zs ≠ [] → ∀ p, A2 = some p → ¬ Wr T b j wr p.block) ∧ Hid (b < wr.heap.size)) (fun i _ => L - (intOf i).toNat)
  case atStart => exact ⟨0, Nat.zero_le _, rfl, HJ3, HA2, HF3, HB3⟩
  case round =>
    obtain ⟨k, hk, rfl, HJr, HSr, HFr, HBr⟩ := hrel
    by_cases hlt : k < L
    · have hk0 : (0 : Int) ≤ (k : Int) := by omega
      have hk1 : (k : Int) < (L : Int) := by omega
      obtain ⟨b2, o2, rfl, hx⟩ := HSr.out.elem (i := k) (by rw [HZS.out]; exact hlt)
      obtain ⟨⟨⟨zk, zn⟩, zo⟩, HZ⟩ : ∃ z, Hid (zs[k]'(by rw [HZS.out]; exact hlt) = z) := ⟨_, Lib.hid rfl⟩
      rw [HZ.out] at hx
      have hx1 := hx 0 _ rfl
      have hx2 := hx 1 _ rfl
      have hx3 := hx 2 _ rfl
      simp only [EHI, Nat.add_zero] at hx1 hx2 hx3
      clear hx
      obtain ⟨w5, HW5⟩ : ∃ w5, Hid (wr.alloc (.cells #[.int .i64 zk, .int .i64 zn, .int .i64 zo] 114) = w5) := ⟨_, Lib.hid rfl⟩
      have HK5 : Hid (Keep (fun _ => False) wr w5) := by rw [← HW5.out]; exact (Keep.refl _ wr).alloc _
      have HZ1 : Hid (zl.take k ++ [(zk, zn)] = zl.take (k + 1)) := by
        have h1 : zl[k]? = some (zk, zn) := by
          rw [← HZM.out, List.getElem?_map, List.getElem?_eq_getElem (by rw [HZS.out]; exact hlt), HZ.out]
          rfl
        unfold Hid
        rw [List.take_add_one, h1]
        rfl
      obtain ⟨fn, tmps, assign, body, hy, hR⟩ := HY.out (zl.take k) (zk, zn) w5 (AbidesFrom.kept HJ.out HJr.out HK5.out) (by rw [List.length_take, HZL.out]; omega)
      have HR := Lib.hid hR
      simp only [EI] at hy
      rw [← HW5.out] at hy
      clear hR
      gi_wp2_with (fail)
      rw [HW5.out]
      refine ⟨fun h => absurd h (by simp [Fence.wide]), HR.out.mono ?_⟩
      have HS5 : Hid (RW T b j wr w5) := .of_kept HK5.out HBr.out
      rintro e W3 (⟨rfl, hJ3, hk3⟩ | ⟨rfl, hJx3⟩)
      · have HRW : Hid (RW T b j wr W3) := HS5.out.trans hk3
        have HN : Hid (J (zl.take (k + 1)) W3) := by rw [← HZ1.out]; exact hJ3
        clear hJ3 hk3 hy
        gi_wp2
        go_roundw
        case rel => exact ⟨k + 1, hlt, by go_num, HN, HRW.out.sl HSr.out HFr.out, HRW.out.far HSr.out HFr.out, Nat.lt_of_lt_of_le HBr.out HRW.out.size⟩
        case measure => simp [intOf]; omega
      · have HN : Hid (Jx (zl.take (k + 1)) W3) := by rw [← HZ1.out]; exact hJx3
        clear hJx3 hy
        gi_wp2
        refine bodyPost_ret (results_none rfl _ _ _) rfl ?_
        exact ⟨⟨_, rfl⟩, .inr ⟨_, List.take_prefix _ _, HN.out⟩⟩
    · have hkL : k = L := by omega
      subst k
      gi_wp2
      go_end0
      exact ⟨⟨_, rfl⟩, .inl ⟨_, List.take_of_length_le (Nat.le_of_eq HZL.out), HJr.out⟩⟩

/-- the iterator of a bag under order o: zl is what is told -/
theorem all_stops {o : Int} {bb m bx : Nat} {A : Option Addr} {cs : List (Held Item)} {w : World} (n : Nat) (zl : List Item) (T : Nat → Prop) (b j : Nat)
   (h : BL o bb A m cs w) (hm : m ≤ 1000000000) (hlen : cs.length ≤ 1000000000) (hbx : w.cell? ⟨bx, 0, none⟩ = some (.pointer (some ⟨bb, 0, none⟩))) (hz : Sorts (kap o) (cs.map (·.1)) zl)
   (hold : ∀ k, Wr T b j w k → k < w.heap.size) (hb : b < w.heap.size) :
    SeqStopsK Fence.wide n Try.prog 71 #[.pointer (some ⟨bx, 0, none⟩)] (fun x : Item => #[EI.val x]) (RW T b j) (fun ys => ys = zl) (fun pre => pre <+: zl) zl.length w := fun l J Jx W hW hJ _ hY h0 => by
  have hk : Keep (fun k => w.heap.size ≤ k) w W := ⟨hW.os, hW.tape, hW.output, hW.size, fun i hi _ => hW.block i hi⟩
  have hlt := h.lt
  refine all_in n l J Jx zl T b j (h.keep hk (by omega) (fun ⟨a, ha, hs⟩ => by have := (h.old a ha).1; omega)) hm hlen (hk.cell hbx (by have := World.block_lt_of_cell? w _ hbx; show ¬ w.heap.size ≤ bx; exact Nat.not_le.2 this)) hz (fun k hw => ?_) (Nat.lt_of_lt_of_le hb hk.size) hJ hY h0
  refine Nat.lt_of_lt_of_le (hold k (hw.elim .inl (fun ⟨A, n, c, g1, g2⟩ => .inr ⟨A, n, c, (World.cell?_of_block (w := w) (a := ⟨b, j, none⟩) (hk.block b hb (by omega))).symm.trans g1, g2⟩))) hk.size

/-- of a bag that isn't there nothing is told -/
theorem none_stops {bx : Nat} {p : Option Addr} {w : World} (n : Nat) (Kp : World → World → Prop) (hbx : w.cell? ⟨bx, 0, none⟩ = some (.pointer p)) (hT : ∀ W, Below w.heap.size w W → Calls Try.prog 69 #[.pointer p] W (fun e w'' => e = .returned (.bool false) ∧ w'' = W)) :
    SeqStopsK Fence.wide n Try.prog 71 #[.pointer (some ⟨bx, 0, none⟩)] (fun x : Item => #[EI.val x]) Kp (fun ys => ys = []) (fun pre => pre <+: []) 0 w := fun l J Jx W hW _ _ _ h0 => by
  have hk : Keep (fun k => w.heap.size ≤ k) w W := ⟨hW.os, hW.tape, hW.output, hW.size, fun i hi _ => hW.block i hi⟩
  have hbx' := hk.cell hbx (by have := World.block_lt_of_cell? w _ hbx; show ¬ w.heap.size ≤ bx; exact Nat.not_le.2 this)
  have HT := Lib.hid (hT W hW)
  have H0 := Lib.hid h0
  clear hT h0 hbx hW hk
  simp only [List.cons_append, List.nil_append, List.append_toArray]
  refine callsIn_of_wp Try.func71 rfl trivial ?_ rfl
  simp only [Try.ntmps71, List.size_toArray, List.length_cons, List.length_nil, Nat.reduceAdd, Nat.reduceSub, Array.replicate_succ, Array.replicate_zero, List.push_toArray, List.append_toArray, List.nil_append, List.cons_append]
  gi_wp2_with (refine ⟨trivial, fun h => absurd h (by simp [Fence.wide]), ?_⟩; gi_at_call 69; refine callsIn_wide.2 (HT.out.mono ?_); rintro e w2 ⟨rfl, hw⟩; replace hw := hw.symm; subst hw; dsimp only)
  refine bodyPost_ret (results_none rfl _ _ _) rfl ?_
  exact ⟨⟨_, rfl⟩, .inl H0.out⟩

theorem all_ok (p : Option Addr) (w : World) : Calls Try.prog 42 #[.pointer p] w fun e w' => e = .returned (.func (.func 71) #[] #[.pointer (some ⟨w.heap.size, 0, none⟩)]) ∧ w' = w.alloc (.cells #[.pointer p] 53) := by
  go_enter Try.func42, Try.ntmps42
  go_wp2
  go_ret
  exact ⟨rfl, rfl⟩
end Go.Proofs.Ytnofckgnnpmiiaa

/- What was taken out of a bag so far, and what is left in it. Plain Lean. -/
namespace Go.Proofs.Ytnofckgnnpmiiaa

section
variable {c : Item → Item → Int} {κ : Item → Int}
theorem sorted_sorts (hk : Keyed c κ) {fs : List (Held Item)} {m : Int} {xs : List Item} (h1 : fs.Pairwise (leH c)) (h2 : fs.Perm (heldFrom m xs)) : Sorts κ xs (fs.map (·.1)) := by
  refine ⟨?_, fun v => ?_⟩
  · rw [List.pairwise_map]
    refine h1.imp (fun {a b} hab => ?_)
    rw [leH_iff hk] at hab
    omega
  · rw [← heldFrom_filter (κ := κ) v xs m, List.filter_map]
    have e : fs.filter ((fun a => κ a == v) ∘ (·.1)) = (heldFrom m xs).filter (fun a => κ a.1 == v) := by
      refine List.Perm.eq_of_pairwise (le := fun a b => a.2 ≤ b.2) ?_ ?_ ?_ (h2.filter _)
      · intro a b ha hb h3 h4
        exact heldFrom_inj xs m a b (h2.mem_iff.1 (List.mem_filter.1 ha).1) (List.mem_filter.1 hb).1 (by omega)
      · rw [List.pairwise_filter]
        refine h1.imp (fun {a b} hab ha hb => ?_)
        rw [leH_iff hk] at hab
        have ea : κ a.1 = v := by simpa using ha
        have eb : κ b.1 = v := by simpa using hb
        omega
      · exact ((heldFrom_up xs m).imp (fun {a b} hab => Int.le_of_lt hab)).filter _
    rw [e]
theorem heldFrom_app : ∀ (xs ys : List Item) (m : Int), heldFrom m (xs ++ ys) = heldFrom m xs ++ heldFrom (m + xs.length) ys
  | [], ys, m => by simp [heldFrom]
  | x :: xs, ys, m => by
    rw [List.cons_append, heldFrom, heldFrom, heldFrom_app xs ys (m + 1), List.cons_append, List.length_cons]
    congr 3
    omega

/-- a list in the order of c and of the numbers -/
theorem heldSort (hk : Keyed c κ) (cs : List (Held Item)) : ∃ zs : List (Held Item), zs.Pairwise (leH c) ∧ zs.Perm cs := by
  refine ⟨cs.mergeSort (fun x y => !aheadB c y x), ?_, List.mergeSort_perm _ _⟩
  have h := List.pairwise_mergeSort (le := fun x y : Held Item => !aheadB c y x) (fun a b d h1 h2 => ?_) (fun a b => ?_) cs
  · exact h.imp (fun {a b} hab => by simpa [leH] using hab)
  · have h1' : leH c a b := by simpa [leH] using h1
    have h2' : leH c b d := by simpa [leH] using h2
    have := h1'.trans hk h2'
    simpa [leH] using this
  · have : leH c a b ∨ leH c b a := by
      rw [leH_iff hk, leH_iff hk]
      omega
    simpa [leH] using this

/-- fo was taken, cs is left, of all -/
structure DT (c : Item → Item → Int) (fo cs all : List (Held Item)) : Prop where
  up : fo.Pairwise (leH c)
  perm : (fo ++ cs).Perm all
  le : ∀ x ∈ fo, ∀ y ∈ cs, leH c x y
theorem DT.start (all : List (Held Item)) : DT c [] all all := ⟨.nil, .refl _, fun _ h => by simp at h⟩
theorem DT.next {fo cs all : List (Held Item)} (h : DT c fo cs all) {z : Held Item} (hz : z ∈ cs) (hl : ∀ y ∈ cs, leH c z y) : DT c (fo ++ [z]) (cs.erase z) all := by
  refine ⟨?_, ?_, ?_⟩
  · rw [List.pairwise_append]
    refine ⟨h.up, List.pairwise_singleton _ _, fun a ha b hb => ?_⟩
    obtain rfl := List.mem_singleton.1 hb
    exact h.le a ha _ hz
  · rw [List.append_assoc]
    refine List.Perm.trans (List.Perm.append_left fo ?_) h.perm
    exact (List.perm_cons_erase hz).symm
  · intro x hx y hy
    have hy' := List.mem_of_mem_erase hy
    rcases List.mem_append.1 hx with hx | hx
    · exact h.le x hx y hy'
    · obtain rfl := List.mem_singleton.1 hx
      exact hl y hy'
theorem DT.done (hk : Keyed c κ) {fo : List (Held Item)} {m : Int} {xs : List Item} (h : DT c fo [] (heldFrom m xs)) : Sorts κ xs (fo.map (·.1)) :=
  sorted_sorts hk h.up (by have := h.perm; rwa [List.append_nil] at this)
theorem DT.first (hk : Keyed c κ) {fo cs : List (Held Item)} {m : Int} {xs s : List Item} (h : DT c fo cs (heldFrom m xs)) (hs : Sorts κ xs s) : s.take fo.length = fo.map (·.1) := by
  obtain ⟨zs, h1, h2⟩ := heldSort hk cs
  have h3 : Sorts κ xs ((fo ++ zs).map (·.1)) := by
    refine sorted_sorts hk ?_ ((List.Perm.append_left fo h2).trans h.perm)
    rw [List.pairwise_append]
    exact ⟨h.up, h1, fun a ha b hb => h.le a ha b (h2.mem_iff.1 hb)⟩
  rw [hs.unique h3, List.map_append]
  have e : fo.length = (fo.map (·.1)).length := (List.length_map _).symm
  rw [e, List.take_left]
theorem DT.lens {fo cs all : List (Held Item)} (h : DT c fo cs all) : fo.length + cs.length = all.length := by
  have := h.perm.length_eq
  rwa [List.length_append] at this
theorem DT.all {fo cs : List (Held Item)} {m : Int} {a b zl : List Item} {n : Int} (h : DT c fo cs (heldFrom m a)) (hz : Sorts κ ((cs ++ heldFrom n b).map (·.1)) zl) : (fo.map (·.1) ++ zl).Perm (a ++ b) := by
  have h1 := h.perm.map (·.1)
  rw [List.map_append, heldFrom_map] at h1
  have h2 : zl.Perm (cs.map (·.1) ++ b) := by
    have := hz.perm
    rwa [List.map_append, heldFrom_map] at this
  refine (List.Perm.append_left _ h2).trans ?_
  rw [← List.append_assoc]
  exact h1.append_right b
theorem Sorts.rises (hk : Keyed c κ) {xs zl : List Item} (h : Sorts κ xs zl) : ∀ p y x, zl[p]? = some y → zl[p + 1]? = some x → ¬ c x y < 0 := fun p y x h1 h2 hc => by
  obtain ⟨g1, g2⟩ := List.getElem?_eq_some_iff.1 h1
  obtain ⟨g3, g4⟩ := List.getElem?_eq_some_iff.1 h2
  have h3 := List.pairwise_iff_getElem.1 h.up p (p + 1) g1 g3 (by omega)
  rw [g2, g4] at h3
  have h4 := (hk.lt x y).1 hc
  omega
end
section
variable {o : Int} {bb m : Nat} {A : Option Addr} {cs : List (Held Item)} {w w' : World}
theorem BL.add_one (h : BL o bb A m cs w) (x : Item) (hl : cs.length + 1 ≤ 1000000000) (hm : m + 1 ≤ 1000000000) :
    Calls Try.prog 40 #[.pointer (some ⟨bb, 0, none⟩), .slice (some ⟨w.heap.size, 0, none⟩) 1 1] (w.alloc (.cells #[.int .i64 x.1, .int .i64 x.2] 27)) fun e w' =>
      e = .returned (.tuple #[]) ∧ ∃ A', BL o bb A' (m + 1) (cs ++ [(x, (m : Int))]) w' ∧ (∀ a, A' = some a → AtB A a.block ∨ w.heap.size ≤ a.block) ∧ Keep (Mb bb A) w w' := by
  have k0 : Keep (fun _ => False) w (w.alloc (.cells #[.int .i64 x.1, .int .i64 x.2] 27)) := (Keep.refl _ w).alloc _
  have hlt := h.lt
  refine ((h.keep k0 (fun h => h) (fun ⟨_, _, h⟩ => h)).add (some ⟨w.heap.size, 0, none⟩) 1 1 [x] rfl (Sl.one EI w x _ 27 rfl) (fun _ a ha hk => ?_) hl hm).mono ?_
  · obtain rfl := Option.some.inj ha
    rcases hk with hk | ⟨a', ha', e⟩
    · exact absurd hlt (by rw [← hk]; exact Nat.lt_irrefl _)
    · have := (h.old a' ha').1
      rw [e] at this
      exact Nat.lt_irrefl _ this
  · rintro e w' ⟨he, A', g1, g2, g3⟩
    refine ⟨he, A', g1, fun a ha => (g2 a ha).imp id (fun h => ?_), (k0.mono (fun _ _ h => h.elim)).then_ g3⟩
    rw [World.size_alloc] at h
    omega
/-- what is done with the one bag: neither the other one nor what was ahead of both is written -/
def KC (b : Nat) : Nat → Prop := fun k => k = b ∨ b + 2 ≤ k
theorem Keep.kc {b : Nat} (k : Keep (Mb b A) w w') (hA : ∀ a, A = some a → b + 2 ≤ a.block) : Keep (KC b) w w' :=
  k.mono (fun i _ h => h.elim .inl (fun ⟨a, ha, e⟩ => .inr (by have := hA a ha; omega)))
/-- the bag in block b holds cs; its heap lies behind both bags -/
def BK (o : Int) (b m : Nat) (cs : List (Held Item)) (w5 w : World) : Prop := ∃ A, BL o b A m cs w ∧ (∀ a, A = some a → b + 2 ≤ a.block) ∧ Keep (KC b) w5 w
theorem BK.add_one {b : Nat} {w5 : World} (h : BK o b m cs w5 w) (x : Item) (hw : b + 2 ≤ w.heap.size) (hl : cs.length + 1 ≤ 1000000000) (hm : m + 1 ≤ 1000000000) :
    Calls Try.prog 40 #[.pointer (some ⟨b, 0, none⟩), .slice (some ⟨w.heap.size, 0, none⟩) 1 1] (w.alloc (.cells #[.int .i64 x.1, .int .i64 x.2] 27)) fun e w' => e = .returned (.tuple #[]) ∧ BK o b (m + 1) (cs ++ [(x, (m : Int))]) w5 w' := by
  obtain ⟨A, h1, h2, h3⟩ := h
  refine (h1.add_one x hl hm).mono ?_
  rintro e w' ⟨he, A', g1, g2, g3⟩
  refine ⟨he, A', g1, fun a ha => ?_, h3.then_ (g3.kc h2)⟩
  rcases g2 a ha with ⟨a', ha', e⟩ | g
  · have := h2 a' ha'
    omega
  · omega
theorem BK.add {b : Nat} {w5 : World} (h : BK o b m cs w5 w) (X : Option Addr) (cx L : Nat) (xs : List Item) (hL : xs.length = L) (hx : Sl EI w X cx xs) (hX : xs ≠ [] → ∀ a, X = some a → a.block < b) (hw : b + 2 ≤ w.heap.size) (hl : cs.length + L ≤ 1000000000) (hm : m + L ≤ 1000000000) :
    Calls Try.prog 40 #[.pointer (some ⟨b, 0, none⟩), .slice X L cx] w fun e w' => e = .returned (.tuple #[]) ∧ BK o b (m + L) (cs ++ heldFrom (m : Int) xs) w5 w' := by
  obtain ⟨A, h1, h2, h3⟩ := h
  refine (h1.add X cx L xs hL hx (fun hne a ha hk => ?_) hl hm).mono ?_
  · have h4 := hX hne a ha
    rcases hk with hk | ⟨a', ha', e⟩
    · omega
    · have := h2 a' ha'
      omega
  · rintro e w' ⟨he, A', g1, g2, g3⟩
    refine ⟨he, A', g1, fun a ha => ?_, h3.then_ (g3.kc h2)⟩
    rcases g2 a ha with ⟨a', ha', e⟩ | g
    · have := h2 a' ha'
      omega
    · omega
theorem BK.len {b : Nat} {w5 : World} (h : BK o b m cs w5 w) : Calls Try.prog 38 #[.pointer (some ⟨b, 0, none⟩)] w fun e w' => e = .returned (.int .i64 (cs.length : Int)) ∧ w' = w := by
  obtain ⟨A, h1, _⟩ := h
  exact h1.len
theorem BK.kept {b : Nat} {w5 : World} (h : BK o b m cs w5 w) : Keep (KC b) w5 w := by
  obtain ⟨A, _, _, h3⟩ := h
  exact h3
theorem BK.keep {b : Nat} {w5 : World} (h : BK o b m cs w5 w) (k : Keep (fun _ => False) w w') : BK o b m cs w5 w' := by
  obtain ⟨A, h1, h2, h3⟩ := h
  exact ⟨A, h1.keep k (fun h => h) (fun ⟨_, _, h⟩ => h), h2, h3.then_ (k.mono (fun _ _ h => h.elim))⟩
/-- a bag, what was taken out of it, and the list that it was appended to -/
structure DL (o : Int) (b m : Nat) (all fo cs : List (Held Item)) (Ao : Option Addr) (co : Nat) (w5 w : World) : Prop where
  dt : DT (byC o) fo cs all
  bag : ∃ A p, BL o b A m cs w ∧ (∀ a, A = some a → b + 2 ≤ a.block ∧ a.block < p) ∧ (∀ a, Ao = some a → p ≤ a.block) ∧ b + 2 ≤ p ∧ p ≤ w.heap.size
  keep : Keep (KC b) w5 w
  ow : Ow EI w Ao co (fo.map (·.1))
theorem DL.start {b : Nat} {w5 : World} (h : BK o b m cs w5 w) (hw : b + 2 ≤ w.heap.size) : DL o b m cs [] cs none 0 w5 w := by
  obtain ⟨A, h1, h2, h3⟩ := h
  exact ⟨DT.start cs, ⟨A, w.heap.size, h1, fun a ha => ⟨h2 a ha, (h1.old a ha).1⟩, fun a h => by simp at h, hw, Nat.le_refl _⟩, h3, Ow.nil_ _ _ _⟩
section
variable {b : Nat} {w5 : World} {all fo : List (Held Item)} {Ao : Option Addr} {co : Nat}
theorem DL.len (h : DL o b m all fo cs Ao co w5 w) : Calls Try.prog 38 #[.pointer (some ⟨b, 0, none⟩)] w fun e w' => e = .returned (.int .i64 (cs.length : Int)) ∧ w' = w := by
  obtain ⟨A, p, h1, _⟩ := h.bag
  exact h1.len
theorem DL.back (h : DL o b m all fo cs Ao co w5 w) : BK o b m cs w5 w := by
  obtain ⟨A, p, h1, h2, _⟩ := h.bag
  exact ⟨A, h1, fun a ha => (h2 a ha).1, h.keep⟩
/-- one more is taken -/
theorem DL.take (h : DL o b m all fo cs Ao co w5 w) (hne : cs ≠ []) (hl : cs.length ≤ 1000000000) :
    Calls Try.prog 41 #[.pointer (some ⟨b, 0, none⟩)] w fun e w' => ∃ z : Held Item, e = .returned (.tuple #[EI.val z.1, .bool true]) ∧ (cs.erase z).length + 1 = cs.length ∧
      ∀ w2, Keep (fun _ => False) w' w2 → Ow EI w2 Ao co (fo.map (·.1)) ∧ ∀ A' c' w'', Appended EI w2 Ao ((fo ++ [z]).map (·.1)) A' c' w'' → DL o b m all (fo ++ [z]) (cs.erase z) A' c' w5 w'' := by
  obtain ⟨A, p, h1, h2, h3, h4, h5⟩ := h.bag
  refine (h1.take_some hne hl).mono ?_
  rintro e w' ⟨z, hz, hle, he, hb, hk⟩
  have hnb : ¬ InB (Mb b A) Ao := by
    rintro ⟨a, ha, hm | ⟨a', ha', e⟩⟩
    · have := h3 a ha
      omega
    · have := h3 a ha
      have := (h2 a' ha').2
      omega
  refine ⟨z, he, by rw [List.length_erase_of_mem hz]; have := List.length_pos_of_mem hz; omega, fun w2 k2 => ⟨(h.ow.keep hk hnb).keep k2 (fun ⟨_, _, h⟩ => h), fun A' c' w'' hap => ?_⟩⟩
  have hs2 : p ≤ w2.heap.size := Nat.le_trans h5 (Nat.le_trans hk.size k2.size)
  refine ⟨h.dt.next hz hle, ⟨A, p, (hb.keep k2 (fun h => h) (fun ⟨_, _, h⟩ => h)).keep hap.keep ?_ ?_, h2, fun a ha => ?_, h4, Nat.le_trans hs2 hap.keep.size⟩, ?_, hap.ow⟩
  · rintro ⟨a, ha, e⟩
    have := h3 a ha
    omega
  · rintro ⟨a, ha, a', ha', e⟩
    have := h3 a' ha'
    have := (h2 a ha).2
    omega
  · rcases hap.lies a ha with ⟨a0, h0, e⟩ | ⟨e, _⟩
    · have := h3 a0 h0
      omega
    · omega
  · refine ((h.keep.then_ (hk.kc (fun a ha => (h2 a ha).1))).then_ (k2.mono (fun _ _ h => h.elim))).then_ (hap.keep.mono (fun i _ hi => ?_))
    obtain ⟨a, ha, e⟩ := hi
    have := h3 a ha
    exact .inr (by omega)
end
end
theorem DL.keep_ {o : Int} {b m : Nat} {all fo cs : List (Held Item)} {Ao : Option Addr} {co : Nat} {w5 w w' : World} (h : DL o b m all fo cs Ao co w5 w) (k : Keep (fun _ => False) w w') : DL o b m all fo cs Ao co w5 w' := by
  obtain ⟨A, p, h1, h2, h3, h4, h5⟩ := h.bag
  exact ⟨h.dt, ⟨A, p, h1.keep k (fun h => h) (fun ⟨_, _, h⟩ => h), h2, h3, h4, Nat.le_trans h5 k.size⟩, h.keep.then_ (k.mono (fun _ _ h => h.elim)), h.ow.keep k (fun ⟨_, _, h⟩ => h)⟩
theorem DL.add {o : Int} {b m : Nat} {all fo cs : List (Held Item)} {Ao : Option Addr} {co : Nat} {w5 w : World} (h : DL o b m all fo cs Ao co w5 w) (X : Option Addr) (cx L : Nat) (xs : List Item) (hL : xs.length = L) (hx : Sl EI w X cx xs) (hX : xs ≠ [] → ∀ a, X = some a → a.block < b) (hl : cs.length + L ≤ 1000000000) (hm : m + L ≤ 1000000000) :
    Calls Try.prog 40 #[.pointer (some ⟨b, 0, none⟩), .slice X L cx] w fun e w' => e = .returned (.tuple #[]) ∧ BK o b (m + L) (cs ++ heldFrom (m : Int) xs) w5 w' ∧ Ow EI w' Ao co (fo.map (·.1)) := by
  obtain ⟨A, p, h1, h2, h3, h4, h5⟩ := h.bag
  refine (h1.add X cx L xs hL hx (fun hne a ha hk => ?_) hl hm).mono ?_
  · have h6 := hX hne a ha
    rcases hk with hk | ⟨a', ha', e⟩
    · omega
    · have := (h2 a' ha').1
      omega
  · rintro e w' ⟨he, A', g1, g2, g3⟩
    refine ⟨he, ⟨A', g1, fun a ha => ?_, h.keep.then_ (g3.kc (fun a ha => (h2 a ha).1))⟩, h.ow.keep g3 ?_⟩
    · rcases g2 a ha with ⟨a', ha', e⟩ | g
      · have := (h2 a' ha').1
        omega
      · omega
    · rintro ⟨a, ha, hm | ⟨a', ha', e⟩⟩
      · have := h3 a ha
        omega
      · have := h3 a ha
        have := (h2 a' ha').2
        omega
theorem Appended.kept_all {α : Type} {E : El α} {w w0 w' : World} {A A' : Option Addr} {c' : Nat} {zs : List α} (h : Appended E w A zs A' c' w') (k : Keep nob w0 w) (hA : ∀ a, A = some a → w0.heap.size ≤ a.block) : Keep nob w0 w' ∧ ∀ a, A' = some a → w0.heap.size ≤ a.block :=
  ⟨k.trans h.keep (fun b h1 ⟨a, ha, e⟩ => by have := hA a ha; omega), fun a ha => by
    rcases h.lies a ha with ⟨a0, h0, e⟩ | ⟨e, _⟩
    · rw [← e]; exact hA a0 h0
    · rw [e]; exact k.size⟩

/-! ### a round that appends what is told to a list in a box -/
theorem wpListIn_append_ow {P : Program} {α : Type} (E : El α) {l n : Nat} {w : World} {op : Oper} {ops : Array Oper} {rest : List Oper} {a : Act} {Q : Exit → Act → World → Prop} (hgd : op.guard = none) (s x : Operand) (t : TypeId)
    (ho : op.op = .call { callee := .builtin .append, args := #[s, x], argTypes := #[t, t] }) (e : TypeId) (z : Value) (bytes : Nat) (ht : P.underlying t = some (.slice e)) (hinfo : (P.info? e).map (fun i => (i.zero, i.size, i.bytes)) = some (some z, E.sz, bytes)) (hz : z.cells.size = E.sz)
    (A : Option Addr) (k c : Nat) (hs : a.eval s = .slice A k c) (xs : List α) (hn : xs.length = k) (hxs : Ow E w A c xs) (A2 : Option Addr) (m c2 : Nat) (hx : a.eval x = .slice A2 m c2) (ys : List α) (hm : ys.length = m) (hys : Sl E w A2 c2 ys)
    (hb : (k + m) * bytes ≤ 140737488355328) (h63 : k + m ≤ 9223372036854775807)
    (h : ∀ A' c' w', Appended E w A (xs ++ ys) A' c' w' → wpListIn (Fence.wide.inRound l) n P ops Q rest (a.put op.dst (.slice A' (k + m) c')) w') : wpListIn (Fence.wide.inRound l) n P ops Q (op :: rest) a w :=
  wpListIn_plain hgd fun K hK => wpIn_of_wp (by rw [ho]) (wp_append_ow (K := K) E s x t ho e z bytes ht hinfo hz A k c hs xs hn hxs A2 m c2 hx ys hm hys hb h63 (fun A' c' w' h' => hK _ _ (h A' c' w' h')))

/-- between two rounds: the box in block bq holds a list that reads as what has come -/
structure Came (bq : Nat) (w1 : World) (pre : List Item) (W : World) : Prop where
  got : ∃ Ar cr, W.cell? ⟨bq, 0, none⟩ = some (.slice Ar pre.length cr) ∧ Ow EI W Ar cr pre ∧ (∀ a, Ar = some a → w1.heap.size ≤ a.block ∧ 0 < cr)
  th : W.there bq 0 1
  keep : Keep (fun k => k = bq) w1 W
theorem Came.own {bq : Nat} {w1 : World} : OwnFrom w1.heap.size (Came bq w1) := by
  intro pre W W' row h hg hr
  have hck := CK.of_grown hg (fun r e => (hr r e).2)
  obtain ⟨Ar, cr, h1, h2, h3⟩ := h.got
  exact ⟨⟨Ar, cr, (hck _ _ h1).1, hck.ow h2, h3⟩, hck.there h.th, h.keep.grown hg (fun r e => (hr r e).1)⟩
/-- what a round may write -/
theorem Came.next {bq : Nat} {w1 : World} {pre : List Item} {W W1 W2 : World} {Ar A' : Option Addr} {cr c' : Nat} {x : Item} (hq : bq < w1.heap.size) (h : Came bq w1 pre W) (hc : W.cell? ⟨bq, 0, none⟩ = some (.slice Ar pre.length cr)) (hA : ∀ a, Ar = some a → w1.heap.size ≤ a.block ∧ 0 < cr) (ho : Ow EI W Ar cr pre)
    (k1 : Keep (fun _ => False) W W1) (hap : Appended EI W1 Ar (pre ++ [x]) A' c' W2) (hl : A' = none ∨ 0 < c') :
    KeepsFrom w1.heap.size W (W2.setCell ⟨bq, 0, none⟩ (.slice A' (pre.length + 1) c')) ∧ RW (fun k => k = bq) bq 0 W (W2.setCell ⟨bq, 0, none⟩ (.slice A' (pre.length + 1) c')) ∧ Came bq w1 (pre ++ [x]) (W2.setCell ⟨bq, 0, none⟩ (.slice A' (pre.length + 1) c')) := by
  have hWs : w1.heap.size ≤ W.heap.size := h.keep.size
  have k2 : Keep (fun k => k = bq) W2 (W2.setCell ⟨bq, 0, none⟩ (.slice A' (pre.length + 1) c')) := (Keep.refl (fun k => k = bq) W2).setCell (fun _ => rfl) _
  have hne : ¬ AtB Ar bq := fun ⟨a, ha, e⟩ => by have := (hA a ha).1; omega
  have hc2 : W2.cell? ⟨bq, 0, none⟩ = some (.slice Ar pre.length cr) := hap.keep.cell (k1.cell hc (fun h => h)) hne
  have hc3 : (W2.setCell ⟨bq, 0, none⟩ (.slice A' (pre.length + 1) c')).cell? ⟨bq, 0, none⟩ = some (.slice A' (pre.length + 1) c') := World.cell?_setCell_same _ _ _ hc2
  have kk : Keep (fun k => k = bq ∨ AtB Ar k) W (W2.setCell ⟨bq, 0, none⟩ (.slice A' (pre.length + 1) c')) := ((k1.mono (fun _ _ h => h.elim)).then_ (hap.keep.mono (fun _ _ h => .inr h))).then_ (k2.mono (fun _ _ h => .inl h))
  have hA' : ∀ a, A' = some a → (∃ a0, Ar = some a0 ∧ a0.block = a.block) ∨ W.heap.size ≤ a.block := fun a ha => by
    rcases hap.lies a ha with h | ⟨h, _⟩
    · exact .inl h
    · have := k1.size
      exact .inr (by omega)
  have hA1 : ∀ a, A' = some a → w1.heap.size ≤ a.block := fun a ha => by
    rcases hA' a ha with ⟨a0, h0, e⟩ | h
    · have := (hA a0 h0).1
      omega
    · omega
  refine ⟨⟨kk.size, fun k ob hB hk ho' => ?_⟩, RW.of_keep (kk.mono (fun k _ hk => ?_)) (fun k hk hw => ?_), ⟨⟨A', c', ?_, ?_, fun a ha => ⟨hA1 a ha, ?_⟩⟩, ?_, ?_⟩⟩
  · refine (kk.block k (Array.getElem?_eq_some_iff.1 hk).1 (fun hS => ?_)).trans hk
    rcases hS with hS | ⟨a, ha, e⟩
    · omega
    · obtain ⟨b', o', e', ht⟩ := ho.room (hA a ha).2
      rw [ha] at e'
      obtain rfl := Option.some.inj e'
      obtain ⟨u, hu⟩ := Option.isSome_iff_exists.1 (ht 0 (Nat.mul_pos (hA _ ha).2 EI.pos)).1
      obtain ⟨ob', h1, h2⟩ := cells_of_cell hu
      rw [show k = b' from e.symm] at hk
      rw [show W.heap[b']? = some ob' from h1] at hk
      obtain rfl := Option.some.inj hk
      rw [h2] at ho'
      cases ho'
  · rcases hk with hk | hk
    · exact .inl hk
    · exact .inr ⟨Ar, _, cr, hc, hk⟩
  · rcases hw with hw | ⟨A2, n2, c2, g1, a, ha, e⟩
    · exact .inl hw
    · rw [hc3] at g1
      simp only [Option.some.injEq, Value.slice.injEq] at g1
      obtain ⟨rfl, _, _⟩ := g1
      rcases hA' a ha with ⟨a0, h0, e0⟩ | h
      · exact .inr ⟨Ar, _, cr, hc, a0, h0, e0.trans e⟩
      · omega
  · rw [hc3, List.length_append]
    rfl
  · refine hap.ow.keep k2 (fun ⟨a, ha, e⟩ => ?_)
    have := hA1 a ha
    have e' : a.block = bq := e
    omega
  · rcases hl with hl | hl
    · rw [hl] at ha
      cases ha
    · exact hl
  · exact there_setCell (hap.keep.there (k1.there h.th (fun h => h)) hne) _ _
  · exact ⟨kk.os.trans h.keep.os, kk.tape.trans h.keep.tape, kk.output.trans h.keep.output, Nat.le_trans hWs kk.size, fun k hk hS => (kk.block k (by omega) (fun h' => h'.elim hS (fun ⟨a, ha, e⟩ => by have := (hA a ha).1; omega))).trans (h.keep.block k hk hS)⟩

/-! ### an append of any list that says where it wrote -/
structure Appended3 {α : Type} (E : El α) (w : World) (A : Option Addr) (c : Nat) (zs : List α) (A' : Option Addr) (c' : Nat) (w' : World) : Prop where
  ow : Ow E w' A' c' zs
  where_ : (A' = A ∧ c' = c ∧ Keep (fun k => 0 < c ∧ AtB A k) w w') ∨ ((∀ a, A' = some a → a.block = w.heap.size) ∧ w.heap.size < w'.heap.size ∧ Keep (fun _ => False) w w')
section
variable {P : Program}
theorem run_append_three {α : Type} (E : El α) (w : World) (t ty e : TypeId) (z : Value) (bytes : Nat) (ht : P.underlying t = some (.slice e)) (hinfo : (P.info? e).map (fun i => (i.zero, i.size, i.bytes)) = some (some z, E.sz, bytes)) (hz : z.cells.size = E.sz)
    {A A2 : Option Addr} {c c2 : Nat} {xs ys : List α} (hx : Ow E w A c xs) (hy : Sl E w A2 c2 ys) (hb : (xs.length + ys.length) * bytes ≤ 140737488355328) (h63 : xs.length + ys.length ≤ 9223372036854775807) :
    ∃ A' c' w', (Builtin.append_ #[t, t] ty #[.slice A xs.length c, .slice A2 ys.length c2]).run P w = .ok (.slice A' (xs.length + ys.length) c') w' ∧ Appended3 E w A c (xs ++ ys) A' c' w' := by
  by_cases hpos : 0 < ys.length
  · obtain ⟨A', c', w', hr, hap⟩ := run_append_one (P := P) E w t ty e z bytes ht hinfo hz hx hy hpos hb h63
    refine ⟨A', c', w', hr, hap.ow, ?_⟩
    rcases hap.where_ with ⟨h1, h2, h3, h4⟩ | h
    · exact .inl ⟨h1, h2, h4.mono (fun _ _ h => ⟨h3, h⟩)⟩
    · exact .inr h
  · obtain rfl : ys = [] := List.eq_nil_of_length_eq_zero (by omega)
    obtain ⟨i, hi, hz0, hsz, hby⟩ := info_parts hinfo
    have hle := hx.sl.le
    refine ⟨A, c, w, ?_, by rw [List.append_nil]; exact hx, .inl ⟨rfl, rfl, Keep.refl _ _⟩⟩
    have hf := firstCells_Sl (P := P) E hy
    cases A <;> simp [Builtin.append_, run_underlying ht, sizeOf, typeInfo, hi, Builtin.lenOf, hsz, El.flat_nil, hle] at hf ⊢ <;> simp [hf, storeCells]
theorem wp_append_three {α : Type} (E : El α) {w : World} {op : Oper} {a : Act} {K : Act → World → Prop} {Q : Exit → Act → World → Prop} (s x : Operand) (t : TypeId)
    (ho : op.op = .call { callee := .builtin .append, args := #[s, x], argTypes := #[t, t] }) (e : TypeId) (z : Value) (bytes : Nat) (ht : P.underlying t = some (.slice e)) (hinfo : (P.info? e).map (fun i => (i.zero, i.size, i.bytes)) = some (some z, E.sz, bytes)) (hz : z.cells.size = E.sz)
    (A : Option Addr) (n c : Nat) (hs : a.eval s = .slice A n c) (xs : List α) (hn : xs.length = n) (hxs : Ow E w A c xs) (A2 : Option Addr) (m c2 : Nat) (hx : a.eval x = .slice A2 m c2) (ys : List α) (hm : ys.length = m) (hys : Sl E w A2 c2 ys)
    (hb : (n + m) * bytes ≤ 140737488355328) (h63 : n + m ≤ 9223372036854775807)
    (h : ∀ A' c' w', Appended3 E w A c (xs ++ ys) A' c' w' → K (a.put op.dst (.slice A' (n + m) c')) w') : op.wp P a w K Q := by
  subst hn; subst hm
  obtain ⟨A', c', w', hr, hap⟩ := run_append_three (P := P) E w t op.type e z bytes ht hinfo hz hxs hys hb h63
  unfold Oper.wp execOp
  simp only [ho, resolve, invoke, builtin, Sem.run_bind, Sem.run_pure, Result.andThen_ok, List.map_toArray, List.map_cons, List.map_nil, hs, hx, hr]
  exact h _ _ _ hap
end
/-- onto an empty list of no room -/
theorem Appended3.first {α : Type} {E : El α} {w w' : World} {A A' : Option Addr} {c' : Nat} {zs : List α} (h : Appended3 E w A 0 zs A' c' w') : Keep (fun _ => False) w w' ∧ (0 < c' → ∀ a, A' = some a → w.heap.size ≤ a.block) := by
  rcases h.where_ with ⟨_, h2, h3⟩ | ⟨h1, _, h3⟩
  · exact ⟨h3.mono (fun _ _ h => absurd h.1 (Nat.lt_irrefl 0)), fun h => by omega⟩
  · exact ⟨h3, fun _ a ha => by rw [h1 a ha]; exact Nat.le_refl _⟩
/-- onto a list that is new since W -/
theorem Appended3.then_ {α : Type} {E : El α} {W w w' : World} {A A' : Option Addr} {c c' : Nat} {zs : List α} (h : Appended3 E w A c zs A' c' w') (k : Keep (fun _ => False) W w) (hA : 0 < c → ∀ a, A = some a → W.heap.size ≤ a.block) :
    Keep (fun _ => False) W w' ∧ (0 < c' → ∀ a, A' = some a → W.heap.size ≤ a.block) := by
  rcases h.where_ with ⟨h1, h2, h3⟩ | ⟨h1, _, h3⟩
  · exact ⟨k.trans h3 (fun i hi ⟨hc, a, ha, e⟩ => by have := hA hc a ha; omega), fun hc a ha => hA (h2 ▸ hc) a (h1 ▸ ha)⟩
  · exact ⟨k.then_ h3, fun _ a ha => by rw [h1 a ha]; exact k.size⟩
theorem Appended3.at_ {α : Type} {E : El α} {w w' : World} {A A' : Option Addr} {c c' : Nat} {zs : List α} (_ : Appended3 E w A c zs A' c' w') {p : World → Prop} (k : p w) : p w := k
/-- another list that is older -/
theorem Appended3.other {α β : Type} {E : El α} {E' : El β} {W w w' : World} {A A' B : Option Addr} {c c' d : Nat} {zs : List α} {ys : List β} (h : Appended3 E w A c zs A' c' w') (hA : 0 < c → ∀ a, A = some a → W.heap.size ≤ a.block) (hB : Ow E' W B d ys) (ho : Ow E' w B d ys) : Ow E' w' B d ys := by
  rcases h.where_ with ⟨h1, h2, h3⟩ | ⟨h1, _, h3⟩
  · refine ho.keep2 h3 (fun hd ⟨a, ha, hc, a', ha', e⟩ => ?_)
    obtain ⟨b, o, eb, hlt⟩ := hB.lt hd
    rw [eb] at ha
    obtain rfl := Option.some.inj ha
    have h4 := hA hc a' ha'
    have h5 : a'.block = b := e
    omega
  · exact ho.keep h3 (fun ⟨_, _, h⟩ => h)
end Go.Proofs.Ytnofckgnnpmiiaa
