/- 'lives': it answers true, and keeps all memory that there was. -/
import Derived.Test.YtnofckgnnpmiiaaLp
import Derived.Test.YtnofckgnnpmiiaaSo
import Derived.Test.YtnofckgnnpmiiaaAd
import Derived.Test.YtnofckgnnpmiiaaTk
namespace Go.Proofs.Ytnofckgnnpmiiaa
open Go.RowKit Go.Shelf
attribute [local go_sem ↓] Go.wp_at_zero Go.wp_at_succ

abbrev none_ : Nat → Prop := fun _ => False
abbrev any_ : Nat → World → Prop := fun _ _ => True
theorem notIn (A : Option Addr) : ¬ InB none_ A := fun ⟨_, _, h⟩ => h
theorem by1_ok : CmpOk Try.prog EI (.func (.func 54) #[] #[]) (byC 1) 0 none_ any_ := byC_ok 1
theorem by0_ok : CmpOk Try.prog EI (.func (.func 16) #[] #[]) (byC 0) 0 none_ any_ := byC_ok 0
theorem pow3 {p : Nat} (h1 : 5 ≤ 2 ^ p) (h2 : p = 0 ∨ 2 ^ (p - 1) < 5) : p = 3 := by
  rcases p with _ | _ | _ | _ | p
  · simp at h1
  · simp at h1
  · simp at h1
  · rfl
  · rcases h2 with h | h
    · omega
    · rw [show p + 1 + 1 + 1 + 1 - 1 = p + 3 by omega, Nat.pow_add] at h
      have := Nat.one_le_two_pow (n := p)
      omega

theorem sort_lv (A : Option Addr) (w : World) (h : Sl EI w A 5 lvL) : Calls Try.prog 14 #[.slice A 5 5, .func (.func 54) #[] #[]] w
    (fun e w' => ∃ b o c', e = .returned (.slice (some ⟨b, o, none⟩) 5 c') ∧ Ow EI w' (some ⟨b, o, none⟩) c' lvS ∧ 5 ≤ c' ∧ Keep none_ w w') := by
  refine (sort_any by1_ok A 5 0 lvL w (Nat.zero_le _) h (by decide) trivial).mono ?_
  rintro e w' ⟨A', c', p, rfl, ho, h1, h2, -, hk, -⟩
  obtain rfl := pow3 h1 h2
  rw [lv2] at ho
  obtain ⟨b, o, rfl, -⟩ := ho.sl.at_ (by decide)
  exact ⟨b, o, c', rfl, ho, ho.sl.le, hk⟩
theorem search_lv (A : Option Addr) (c : Nat) (w : World) (h : Sl EI w A c lvS) : Calls Try.prog 21 #[.slice A 5 c, .agg #[.int .i64 2, .int .i64 0], .func (.func 54) #[] #[]] w
    (fun e w' => e = .returned (.tuple #[.int .i64 2, .bool true]) ∧ Keep none_ w w') := by
  refine (search_any by1_ok A c 0 lvS (2, 0) w (Nat.zero_le _) h (notIn A) (by decide) trivial).mono ?_
  rintro e w' ⟨rfl, -, hk, -⟩
  rw [show lvS.length = 5 from rfl, lv3, lv4]
  exact ⟨rfl, hk⟩
theorem twice_lv (A : Option Addr) (w : World) (h : Sl EI w A 5 lvL) : Calls Try.prog 24 #[.slice A 5 5, .func (.func 54) #[] #[]] w (fun e w' => e = .returned (.int .i64 3) ∧ Keep none_ w w') := by
  refine (twice_any by1_ok A 5 0 lvL w (Nat.zero_le _) h (notIn A) (by decide) trivial).mono ?_
  rintro e w' ⟨p, rfl, h1, h2, hk, -⟩
  obtain rfl := pow3 h1 h2
  rw [show twF (byPlace (byC 1) lvL) (stepsL (byPlace (byC 1) lvL) (List.finRange lvL.length) 3) (lvL.length - 1) = 3 from lv5]
  exact ⟨rfl, hk⟩
def lvH : List (Held Item) := [((-2, 0), 4), ((-1, 0), 1), ((2, 0), 2), ((3, 0), 0), ((1, 0), 3)]
theorem add_lv (b : Nat) (X : Option Addr) (w : World) (h : Bg w b (.func (.func 16) #[] #[]) none 0 [] 0) (hx : Sl EI w X 5 lvL) (hX : ∀ a, X = some a → a.block ≠ b) :
    Calls Try.prog 40 #[.pointer (some ⟨b, 0, none⟩), .slice X 5 5] w (fun e w' => e = .returned (.tuple #[]) ∧ ∃ A' ca', Bg w' b (.func (.func 16) #[] #[]) A' ca' lvH 5 ∧ (∀ a, A' = some a → w.heap.size ≤ a.block) ∧ Keep (fun k => k = b) w w') := by
  refine (add_ok by0_ok b 0 0 3 none X 0 5 [] lvL w (Nat.zero_le _) h (Nat.zero_le _) (fun _ h => by simp at h) hx ?_ trivial (by decide) (by decide) (by decide)).mono ?_
  · rintro a ha (h | h | ⟨a', h, -⟩)
    · exact h
    · exact hX a ha h
    · simp at h
  · rintro e w' ⟨rfl, A', ca', hb, hA, hk, -⟩
    rw [show addL (byC 0) [] ((0 : Nat) : Int) lvL = lvH from lv1] at hb
    refine ⟨rfl, A', ca', hb, fun a ha => ?_, hk.mono ?_⟩
    · rcases hA a ha with ⟨a', h, -⟩ | h
      · simp at h
      · exact h
    · rintro k - (h | h | ⟨a', h, -⟩)
      · exact h.elim
      · exact h
      · simp at h
theorem take_lv (b : Nat) (A : Option Addr) (ca : Nat) (w : World) (h : Bg w b (.func (.func 16) #[] #[]) A ca lvH 5) :
    Calls Try.prog 41 #[.pointer (some ⟨b, 0, none⟩)] w (fun e w' => e = .returned (.tuple #[.agg #[.int .i64 (-2), .int .i64 0], .bool true]) ∧ (∃ hs, hs.length = 4 ∧ Bg w' b (.func (.func 16) #[] #[]) A ca hs 5) ∧ Keep (fun k => k = b ∨ AtB A k) w w') := by
  refine (take_ok by0_ok b 0 5 3 A ca lvH w (Nat.zero_le _) h (Nat.zero_le _) (fun _ _ => Nat.zero_le _) (by decide) trivial (by decide) (by decide)).mono ?_
  rintro e w' ⟨⟨h0, hr, he, rfl⟩, hb, hk, -⟩
  simp only [lvH, List.cons.injEq] at he
  obtain ⟨rfl, -⟩ := he
  refine ⟨rfl, ⟨_, ?_, hb⟩, hk.mono ?_⟩
  · kernel_rfl
  · rintro k - (h | h | h)
    · exact h.elim
    · exact .inl h
    · exact .inr h

theorem lv_cell0 {w w' : World} {b o c : Nat} {S : Nat → Prop} (h : Sl EI w (some ⟨b, o, none⟩) c lvS) (k : Keep S w w') (hb : ¬ S b) : w'.cell? ⟨b, o, none⟩ = some (.int .i64 (-1)) := by
  obtain ⟨b', o', e, hr⟩ := h.at_ (by decide)
  obtain ⟨rfl, rfl⟩ : b = b' ∧ o = o' := by simpa using e
  exact k.range hr hb 0 _ rfl
theorem lv_cell3 {w w' : World} {b o c : Nat} {S : Nat → Prop} (h : Sl EI w (some ⟨b, o, none⟩) c lvS) (k : Keep S w w') (hb : ¬ S b) : w'.cell? ⟨b, o + 6, none⟩ = some (.int .i64 (-2)) := by
  obtain ⟨b', o', e, hr⟩ := h.at_ (by decide)
  obtain ⟨rfl, rfl⟩ : b = b' ∧ o = o' := by simpa using e
  exact k.range hr hb 6 _ rfl

set_option maxRecDepth 100000 in
set_option maxHeartbeats 8000000 in
theorem lives_ok (w : World) : Calls Try.prog 20 #[] w (fun e w' => e = .returned (.bool true) ∧ Keep none_ w w') := by
  obtain ⟨w1, HW1⟩ : ∃ w1, Hid (w.alloc (.cells #[.int .i64 3, .int .i64 0, .int .i64 (-1), .int .i64 0, .int .i64 2, .int .i64 0, .int .i64 1, .int .i64 0, .int .i64 (-2), .int .i64 0] 27) = w1) := ⟨_, Lib.hid rfl⟩
  have HL : Hid (Sl EI w1 (some ⟨w.heap.size, 0, none⟩) 5 lvL) := by
    unfold Hid
    rw [← HW1.out]
    exact ⟨by decide, by decide, fun _ => ⟨_, _, rfl, range_alloc_new w _ _ _ (fun j v hv => by simpa [El.flat, lvL, EI] using hv)⟩⟩
  have HK1 : Hid (Keep none_ w w1) := by unfold Hid; rw [← HW1.out]; exact (Keep.refl _ w).alloc _
  have HZ : Hid (w.heap.size < w1.heap.size) := by unfold Hid; rw [← HW1.out]; simp
  go_enter Try.func20, Try.ntmps20
  go_wp2_with (go_at_call 14; rw [HW1.out]; go_must (refine (sort_lv _ w1 HL.out).mono ?_); rintro e w2 ⟨b1, o1, c1, rfl, ho, hc1, hk⟩; have HO := Lib.hid ho; have HK2 := Lib.hid hk; clear ho hk)
  go_wp2_with (go_at_call 21; go_must (refine (search_lv _ c1 w2 HO.out.sl).mono ?_); rintro e w3 ⟨rfl, hk⟩; have HK3 := Lib.hid hk; clear hk)
  go_wp2_with (go_at_call 33; go_must (refine (new_ok 16 #[] #[] w3).mono ?_); rintro e w4 ⟨rfl, hw4⟩; have HW4 := Lib.hid hw4; clear hw4)
  have HK4 : Hid (Keep none_ w3 w4) := by unfold Hid; rw [HW4.out]; exact (Keep.refl _ w3).alloc _
  have HB4 : Hid (Bg w4 w3.heap.size (.func (.func 16) #[] #[]) none 0 [] 0) := by
    unfold Hid
    rw [HW4.out]
    exact ⟨by simp, by simp, by simp, there_alloc_new w3 _ _ 3 (Nat.le_refl _), Ow.nil_ EHI _ none, fun a h => by simp at h, fun a h => by simp at h⟩
  have HZ3 : Hid (w1.heap.size ≤ w3.heap.size) := Nat.le_trans HK2.out.size HK3.out.size
  have HK14 : Hid (Keep none_ w1 w4) := (HK2.out.then_ HK3.out).then_ HK4.out
  have HL4 : Hid (Sl EI w4 (some ⟨w.heap.size, 0, none⟩) 5 lvL) := HL.out.keep HK14.out (notIn _)
  have HN : Hid (∀ a, some (⟨w.heap.size, 0, none⟩ : Addr) = some a → a.block ≠ w3.heap.size) := fun a ha => by
    have := HZ.out
    have := HZ3.out
    obtain rfl := Option.some.inj ha
    show w.heap.size ≠ _
    omega
  have HO4 : Hid (Sl EI w4 (some ⟨b1, o1, none⟩) c1 lvS) := (HO.out.sl.keep HK3.out (notIn _)).keep HK4.out (notIn _)
  have HZ4 : Hid (w4.heap.size = w3.heap.size + 1) := by unfold Hid; rw [HW4.out]; simp
  have HB1 : Hid (b1 < w3.heap.size) := by
    obtain ⟨b, o, e, h⟩ := (HO.out.sl.keep HK3.out (notIn _)).at_ (by decide)
    obtain ⟨rfl, rfl⟩ : b1 = b ∧ o1 = o := by simpa using e
    exact World.block_lt_of_cell? w3 _ (h 0 _ rfl)
  generalize hb : w3.heap.size = b at *
  have HBB := Lib.hid hb
  clear hb
  go_wp2_with (go_at_call 40; go_must (refine (add_lv b _ w4 HB4.out HL4.out HN.out).mono ?_); rintro e w5 ⟨rfl, A', ca', hb, hA, hk⟩; have HB5 := Lib.hid hb; have HA5 := Lib.hid hA; have HK5 := Lib.hid hk; clear hb hA hk)
  have HAP : Hid (∀ k, k < b → ¬ (k = b ∨ AtB A' k)) := fun k hk h => by
    rcases h with h | ⟨a, ha, e⟩
    · omega
    · have := HA5.out a ha
      have := HZ4.out
      omega
  have hb1w : Hid (w.heap.size < b) := Nat.lt_of_lt_of_le HZ.out HZ3.out
  have HL5 : Hid (Sl EI w5 (some ⟨w.heap.size, 0, none⟩) 5 lvL) := HL4.out.keep HK5.out (fun ⟨a, ha, h⟩ => by
    obtain rfl := Option.some.inj ha
    have := hb1w.out
    simp only at h
    omega)
  have HO5 : Hid (Sl EI w5 (some ⟨b1, o1, none⟩) c1 lvS) := HO4.out.keep HK5.out (fun ⟨a, ha, h⟩ => by
    obtain rfl := Option.some.inj ha
    have := HB1.out
    simp only at h
    omega)
  go_upto_region 9 with (go_at_call 41; go_must (refine (take_lv b A' ca' w5 HB5.out).mono ?_); rintro e w6 ⟨rfl, ⟨hs, hl, hb6⟩, hk⟩; have HB6 := Lib.hid hb6; have HK6 := Lib.hid hk; have HHL := Lib.hid hl; clear hb6 hk hl)
  have hnS6 : ¬ InB (fun k => k = b ∨ AtB A' k) (some (⟨w.heap.size, 0, none⟩ : Addr)) := fun ⟨a, ha, h⟩ => by
    obtain rfl := Option.some.inj ha
    exact HAP.out _ hb1w.out h
  have HK7 : Hid (Keep none_ w6 (w6.alloc (.cells #[.int .i64 (-2), .int .i64 0] 27))) := (Keep.refl _ w6).alloc _
  have c0 := lv_cell0 HO5.out (HK6.out.trans (S' := fun k => k = b ∨ AtB A' k) (HK7.out.mono (fun _ _ h => h.elim)) (fun _ _ h => h)) (HAP.out _ HB1.out)
  have c3 := lv_cell3 HO5.out (HK6.out.trans (S' := fun k => k = b ∨ AtB A' k) (HK7.out.mono (fun _ _ h => h.elim)) (fun _ _ h => h)) (HAP.out _ HB1.out)
  have cx : (w6.alloc (.cells #[.int .i64 (-2), .int .i64 0] 27)).cell? ⟨w6.heap.size, 0, none⟩ = some (.int .i64 (-2)) := by simp
  have HL7 : Hid (Sl EI (w6.alloc (.cells #[.int .i64 (-2), .int .i64 0] 27)) (some ⟨w.heap.size, 0, none⟩) 5 lvL) := (HL5.out.keep HK6.out hnS6).keep HK7.out (notIn _)
  have HB7 := Lib.hid (HB6.out.keep HK7.out (fun h => h) (notIn _))
  have HZ6 : Hid (w.heap.size < w6.heap.size) := by
    have h1 := HK6.out.size
    have h2 := HK5.out.size
    have h3 := HZ4.out
    have h4 := hb1w.out
    unfold Hid
    omega
  generalize hw7 : (w6.alloc (.cells #[.int .i64 (-2), .int .i64 0] 27)) = w7 at *
  have HW7 := Lib.hid hw7
  clear hw7 hnS6
  generalize w6.heap.size = bx at *
  go_wp2_with (go_at_call 24; go_must (refine (twice_lv _ w7 HL7.out).mono ?_); rintro e w8 ⟨rfl, hk⟩; have HK8 := Lib.hid hk; have cx8 := hk.cell cx (fun h => h); clear hk)
  have HB8 : Hid (Calls Try.prog 38 #[.pointer (some ⟨b, 0, none⟩)] w8 (fun e w' => e = .returned (.int .i64 4) ∧ w' = w8)) := by
    have := len_ok (HB7.out.keep HK8.out (fun h => h) (notIn _))
    rw [HHL.out] at this
    exact this
  go_wp2_with (go_at_call 38; go_must (refine HB8.out.mono ?_); rintro e w9 ⟨rfl, hw9⟩; replace hw9 := hw9.symm; subst hw9)
  go_ret
  refine ⟨rfl, ?_⟩
  have hz := hb1w.out
  refine (((HK1.out.then_ HK14.out).trans HK5.out (fun k h1 h2 => ?_)).trans HK6.out (fun k h1 h2 => HAP.out k ?_ h2)).then_ (HK7.out.then_ HK8.out)
  · have h3 : k = b := h2
    exact absurd h3 (by omega)
  · omega
end Go.Proofs.Ytnofckgnnpmiiaa
