/- A bag of Items in the words of what is in it, as it came: New, Len, Add, Take, also of a bag that is empty, nil or zero. -/
import Derived.Test.YtnofckgnnpmiiaaAl
import Derived.Test.YtnofckgnnpmiiaaAd
import Derived.Test.YtnofckgnnpmiiaaTk
import Derived.Test.YtnofckgnnpmiiaaNs
namespace Go.Proofs.Ytnofckgnnpmiiaa
open Go.RowKit Go.Shelf
attribute [local go_sem ↓] Go.wp_at_zero Go.wp_at_succ

abbrev byV (o : Int) : Value := .func (.func (byF o)) #[] #[]
/-- the bag in block bb, its heap at A, holds cs as they came, under order o; m is the number of the next one -/
def BL (o : Int) (bb : Nat) (A : Option Addr) (m : Nat) (cs : List (Held Item)) (w : World) : Prop :=
  ∃ ca hs, Bg w bb (byV o) A ca hs m ∧ IsHeap (byC o) hs ∧ hs.Perm cs ∧ cs.Pairwise (fun a b => a.2 < b.2) ∧ ∀ z ∈ cs, 0 ≤ z.2 ∧ z.2 < (m : Int)

section
variable {o : Int} {bb m : Nat} {A : Option Addr} {cs : List (Held Item)} {w w' : World}
theorem BL.keep {S : Nat → Prop} (h : BL o bb A m cs w) (k : Keep S w w') (hb : ¬ S bb) (hA : ¬ InB S A) : BL o bb A m cs w' := by
  obtain ⟨ca, hs, h1, h2⟩ := h
  exact ⟨ca, hs, h1.keep k hb hA, h2⟩
theorem BL.new (w : World) : BL o w.heap.size none 0 [] (w.alloc (.cells #[byV o, .slice none 0 0, .int .i64 0] 61)) :=
  ⟨0, [], ⟨by simp, by simp, by simp, there_alloc_new w _ _ 3 (Nat.le_refl _), Ow.nil_ EHI _ none, fun a h => by simp at h, fun a h => by simp at h⟩, IsHeap.nil, .refl _, .nil, fun z h => by simp at h⟩
theorem BL.lt (h : BL o bb A m cs w) : bb < w.heap.size := by
  obtain ⟨ca, hs, h1, _⟩ := h
  exact World.block_lt_of_cell? w _ h1.cmp
theorem BL.few (h : BL o bb A m cs w) (hm : m ≤ 1000000000) : ∀ z ∈ cs, Few z := by
  obtain ⟨ca, hs, _, _, _, _, h5⟩ := h
  intro z hz
  have := h5 z hz
  exact ⟨this.1, by omega⟩
theorem BL.old (h : BL o bb A m cs w) : ∀ a, A = some a → a.block < w.heap.size ∧ a.block ≠ bb := by
  obtain ⟨ca, hs, h1, _⟩ := h
  exact fun a ha => ⟨h1.old a ha, h1.apart a ha⟩
theorem BL.len (h : BL o bb A m cs w) : Calls Try.prog 38 #[.pointer (some ⟨bb, 0, none⟩)] w fun e w' => e = .returned (.int .i64 (cs.length : Int)) ∧ w' = w := by
  obtain ⟨ca, hs, h1, _, h3, _⟩ := h
  have := len_ok h1
  rw [h3.length_eq] at this
  exact this
theorem heldFrom_lt : ∀ (xs : List Item) (m : Int) (a : Held Item), a ∈ heldFrom m xs → a.2 < m + xs.length
  | [], _, _, h => by simp [heldFrom] at h
  | x :: xs, m, a, h => by
    rw [heldFrom] at h
    rcases List.mem_cons.1 h with rfl | h
    · simp only [List.length_cons]; omega
    · have := heldFrom_lt xs (m + 1) a h
      rw [List.length_cons]
      omega
theorem heldFrom_map : ∀ (xs : List Item) (m : Int), (heldFrom m xs).map (·.1) = xs
  | [], _ => rfl
  | x :: xs, m => by rw [heldFrom, List.map_cons, heldFrom_map xs (m + 1)]
theorem heldFrom_len (xs : List Item) (m : Int) : (heldFrom m xs).length = xs.length := by
  have := congrArg List.length (heldFrom_map xs m)
  rwa [List.length_map] at this
/-- what Add may write: the bag, its heap -/
abbrev Mb (bb : Nat) (A : Option Addr) : Nat → Prop := fun k => k = bb ∨ AtB A k
set_option maxRecDepth 100000 in
theorem add_empty {k : Nat} {first cap : Array Value} {w : World} {b cx : Nat} {A X : Option Addr} {c m : Nat} {hs : List (Held Item)} (h : Bg w b (.func (.func k) first cap) A c hs m) :
    Calls Try.prog 40 #[.pointer (some ⟨b, 0, none⟩), .slice X 0 cx] w (fun e w' => e = .returned (.tuple #[]) ∧ w' = w) := by
  have HT := Lib.hid (there_ok k first cap b w h.cmp)
  clear h
  go_enter Try.func40, Try.ntmps40
  go_wp2_with (go_at_call 69; go_must (refine HT.out.mono ?_); rintro e w2 ⟨rfl, hw2⟩; replace hw2 := hw2.symm; subst hw2)
  go_loopw [13] (fun u13 wr => u13 = .int .i64 0 ∧ Hid (wr = w)) (fun _ _ => 0)
  case atStart => exact ⟨rfl, rfl⟩
  case round =>
    obtain ⟨rfl, HW⟩ := hrel
    have hlt : ¬ ((0 : Int) < 0) := by omega
    go_wp2_with (fail)
    refine bodyPost_end (results_none rfl _ _ _) rfl ?_
    exact ⟨rfl, HW.out⟩
theorem BL.add (h : BL o bb A m cs w) (X : Option Addr) (cx L : Nat) (xs : List Item) (hL : xs.length = L) (hx : Sl EI w X cx xs) (hX : xs ≠ [] → ∀ a, X = some a → ¬ Mb bb A a.block) (hl : cs.length + L ≤ 1000000000) (hm : m + L ≤ 1000000000) :
    Calls Try.prog 40 #[.pointer (some ⟨bb, 0, none⟩), .slice X L cx] w fun e w' => e = .returned (.tuple #[]) ∧ ∃ A', BL o bb A' (m + L) (cs ++ heldFrom (m : Int) xs) w' ∧ (∀ a, A' = some a → AtB A a.block ∨ w.heap.size ≤ a.block) ∧ Keep (Mb bb A) w w' := by
  subst hL
  obtain ⟨ca, hs, h1, h2, h3, h4, h5⟩ := h
  have hn := h3.length_eq
  by_cases hne : xs = []
  · subst hne
    refine (add_empty h1).mono ?_
    rintro e w' ⟨he, rfl⟩
    exact ⟨he, A, ⟨ca, hs, h1, h2, by rw [heldFrom, List.append_nil]; exact h3, by rw [heldFrom, List.append_nil]; exact h4, by rw [heldFrom, List.append_nil]; exact h5⟩, fun a ha => .inl ⟨a, ha, rfl⟩, Keep.refl _ _⟩
  refine (add_ok (byOk o) bb 0 m (hs.length + xs.length) A X ca cx hs xs w (Nat.zero_le _) h1 (Nat.zero_le _) (fun _ _ => Nat.zero_le _) hx (fun a ha hk => ?_) trivial (by omega) hm (Nat.le_of_lt Nat.lt_two_pow_self)).mono ?_
  · rcases hk with hk | hk
    · exact hk
    · exact hX hne a ha hk
  · rintro e w' ⟨he, A', ca', g1, g2, g3, _⟩
    refine ⟨he, A', ⟨ca', _, g1, addL_heap (byC_keyed o) xs hs _ h2, (addL_perm xs hs _).trans (h3.append_right _), ?_, ?_⟩, g2, g3.mono (fun k _ hk => hk.elim (fun h => h.elim) id)⟩
    · rw [List.pairwise_append]
      refine ⟨h4, heldFrom_up xs _, fun a ha b hb => ?_⟩
      have := (h5 a ha).2
      have := heldFrom_le xs _ b hb
      omega
    · intro z hz
      rcases List.mem_append.1 hz with hz | hz
      · have := h5 z hz
        omega
      · have := heldFrom_le xs _ z hz
        have := heldFrom_lt xs _ z hz
        omega
theorem BL.take_some (h : BL o bb A m cs w) (hne : cs ≠ []) (hl : cs.length ≤ 1000000000) :
    Calls Try.prog 41 #[.pointer (some ⟨bb, 0, none⟩)] w fun e w' => ∃ z, z ∈ cs ∧ (∀ y ∈ cs, leH (byC o) z y) ∧ e = .returned (.tuple #[EI.val z.1, .bool true]) ∧ BL o bb A m (cs.erase z) w' ∧ Keep (Mb bb A) w w' := by
  obtain ⟨ca, hs, h1, h2, h3, h4, h5⟩ := h
  have hn := h3.length_eq
  have hpos : 0 < cs.length := List.length_pos_iff.2 hne
  refine (take_ok (byOk o) bb 0 m hs.length A ca hs w (Nat.zero_le _) h1 (Nat.zero_le _) (fun _ _ => Nat.zero_le _) (by omega) trivial (by omega) (Nat.le_of_lt Nat.lt_two_pow_self)).mono ?_
  rintro e w' ⟨⟨h0, hr, e0, he⟩, g1, g2, _⟩
  subst e0
  have hm0 : h0 ∈ cs := h3.mem_iff.1 List.mem_cons_self
  refine ⟨h0, hm0, fun y hy => ?_, he, ⟨ca, _, g1, takeL_heap (byC_keyed o) h2, ?_, h4.sublist List.erase_sublist, fun z hz => h5 z (List.mem_of_mem_erase hz)⟩, g2.mono (fun k _ hk => hk.elim (fun h => h.elim) id)⟩
  · obtain ⟨i, hi, e⟩ := List.mem_iff_getElem.1 (h3.mem_iff.2 hy)
    exact h2.top (byC_keyed o) (t := h0) rfl i y (by rw [← e]; exact List.getElem?_eq_getElem hi)
  · refine takeL_perm.trans ?_
    have := h3.erase h0
    rwa [List.erase_cons_head] at this
end

set_option maxRecDepth 100000 in
theorem take_empty {k : Nat} {first cap : Array Value} {w : World} {b : Nat} {A : Option Addr} {c m : Nat} (h : Bg w b (.func (.func k) first cap) A c [] m) :
    Calls Try.prog 41 #[.pointer (some ⟨b, 0, none⟩)] w (fun e w' => e = .returned (.tuple #[EI.val (0, 0), .bool false]) ∧ Keep nob w w') := by
  obtain ⟨w1, HW1⟩ : ∃ w1, Hid (w1 = (w.alloc (.cells #[.int .i64 0, .int .i64 0] 27)).alloc (.cells #[.int .i64 0, .int .i64 0] 27)) := ⟨_, Lib.hid rfl⟩
  have HK : Hid (Keep nob w w1) := by rw [HW1.out]; exact ((Keep.refl _ _).alloc _).alloc _
  have HT := Lib.hid (there_ok k first cap b w1 (HK.out.cell h.cmp (fun h => h)))
  have h1 := HK.out.cell h.heap (fun h => h)
  simp only [List.length_nil] at h1
  have z1 : w1.cell? ⟨w.heap.size, 0, none⟩ = some (.int .i64 0) := by rw [HW1.out]; simp
  have z2 : w1.cell? ⟨w.heap.size, 1, none⟩ = some (.int .i64 0) := by rw [HW1.out]; simp
  have z3 : w1.cell? ⟨w.heap.size + 1, 0, none⟩ = some (.int .i64 0) := by rw [HW1.out]; simp
  have z4 : w1.cell? ⟨w.heap.size + 1, 1, none⟩ = some (.int .i64 0) := by rw [HW1.out]; simp
  have f1 : w1.frozen? ⟨w.heap.size, 0, none⟩ = false := by rw [HW1.out]; simp
  have f2 : w1.frozen? ⟨w.heap.size, 1, none⟩ = false := by rw [HW1.out]; simp
  have HE := Lib.hid HW1.out.symm
  clear h
  go_enter Try.func41, Try.ntmps41
  go_wp2_with (first
    | (rw [HE.out]; go_at_call 69; go_must (refine HT.out.mono ?_); rintro e w2 ⟨rfl, hw⟩; replace hw := hw.symm; subst hw))
  refine bodyPost_ret (v := .tuple #[.agg #[.int .i64 0, .int .i64 0], .bool false]) ((results_cell_tmp rfl _ _ _).trans ?_) rfl ?_
  · go_simp
  · refine ⟨rfl, HK.out.trans (S' := fun k => k = w.heap.size) (((Keep.refl (fun k => k = w.heap.size) w1).setCell (fun _ => rfl) _).setCell (fun _ => rfl) _) (fun k h1 h2 => by omega)⟩
theorem take_not (b : Option Addr) (w : World) (hT : ∀ w', Keep nob w w' → Calls Try.prog 69 #[.pointer b] w' (fun e w'' => e = .returned (.bool false) ∧ w'' = w')) :
    Calls Try.prog 41 #[.pointer b] w (fun e w' => e = .returned (.tuple #[EI.val (0, 0), .bool false]) ∧ Keep nob w w') := by
  obtain ⟨w1, HW1⟩ : ∃ w1, Hid (w1 = (w.alloc (.cells #[.int .i64 0, .int .i64 0] 27)).alloc (.cells #[.int .i64 0, .int .i64 0] 27)) := ⟨_, Lib.hid rfl⟩
  have HK : Hid (Keep nob w w1) := by rw [HW1.out]; exact ((Keep.refl _ _).alloc _).alloc _
  have HT := Lib.hid (hT w1 HK.out)
  have z1 : w1.cell? ⟨w.heap.size, 0, none⟩ = some (.int .i64 0) := by rw [HW1.out]; simp
  have z2 : w1.cell? ⟨w.heap.size, 1, none⟩ = some (.int .i64 0) := by rw [HW1.out]; simp
  have z3 : w1.cell? ⟨w.heap.size + 1, 0, none⟩ = some (.int .i64 0) := by rw [HW1.out]; simp
  have z4 : w1.cell? ⟨w.heap.size + 1, 1, none⟩ = some (.int .i64 0) := by rw [HW1.out]; simp
  have f1 : w1.frozen? ⟨w.heap.size, 0, none⟩ = false := by rw [HW1.out]; simp
  have f2 : w1.frozen? ⟨w.heap.size, 1, none⟩ = false := by rw [HW1.out]; simp
  have HE := Lib.hid HW1.out.symm
  clear hT
  go_enter Try.func41, Try.ntmps41
  go_wp2_with (first
    | (rw [HE.out]; go_at_call 69; go_must (refine HT.out.mono ?_); rintro e w2 ⟨rfl, hw⟩; replace hw := hw.symm; subst hw))
  refine bodyPost_ret (v := .tuple #[.agg #[.int .i64 0, .int .i64 0], .bool false]) ((results_cell_tmp rfl _ _ _).trans ?_) rfl ?_
  · go_simp
  · refine ⟨rfl, HK.out.trans (S' := fun k => k = w.heap.size) (((Keep.refl (fun k => k = w.heap.size) w1).setCell (fun _ => rfl) _).setCell (fun _ => rfl) _) (fun k h1 h2 => by omega)⟩
theorem add_not (b : Option Addr) (X : Value) (w : World) (hT : Calls Try.prog 69 #[.pointer b] w (fun e w'' => e = .returned (.bool false) ∧ w'' = w)) :
    Calls Try.prog 40 #[.pointer b, X] w (fun e w' => e = .returned (.tuple #[]) ∧ w' = w) := by
  have HT := Lib.hid hT
  clear hT
  go_enter Try.func40, Try.ntmps40
  go_wp2_with (go_at_call 69; go_must (refine HT.out.mono ?_); rintro e w2 ⟨rfl, hw⟩; replace hw := hw.symm; subst hw)
  refine bodyPost_ret (results_none rfl _ _ _) rfl ?_
  exact ⟨rfl, rfl⟩
theorem BL.take_none {o : Int} {bb m : Nat} {A : Option Addr} {w : World} (h : BL o bb A m [] w) : Calls Try.prog 41 #[.pointer (some ⟨bb, 0, none⟩)] w (fun e w' => e = .returned (.tuple #[EI.val (0, 0), .bool false]) ∧ Keep nob w w') := by
  obtain ⟨ca, hs, h1, -, h3, -⟩ := h
  obtain rfl := h3.eq_nil
  exact take_empty h1
end Go.Proofs.Ytnofckgnnpmiiaa
