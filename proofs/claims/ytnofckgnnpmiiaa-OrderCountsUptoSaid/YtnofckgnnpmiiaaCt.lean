/- The counting order: it answers as its order does, and counts; Digits. -/
import Derived.Test.YtnofckgnnpmiiaaRf
import Derived.Test.YtnofckgnnpmiiaaSe
import Derived.Test.YtnofckgnnpmiiaaQk
import Derived.Deep.Cut
namespace Go.Proofs.Ytnofckgnnpmiiaa
open Go.RowKit Go.Shelf
attribute [local go_sem ↓] Go.wp_at_zero Go.wp_at_succ

/-- a counter lies in block b: its order, how often it was asked -/
structure Cnt (o : Int) (b n : Nat) (w : World) : Prop where
  ord : w.cell? ⟨b, 0, none⟩ = some (.int .i64 o)
  cnt : w.cell? ⟨b, 1, none⟩ = some (.int .i64 (RowKit.wrap64 (n : Int)))
  th : w.there b 0 2
theorem Cnt.below {o : Int} {b n B : Nat} {w w' : World} (h : Cnt o b n w) (hb : b < B) (k : Below B w w') : Cnt o b n w' := by
  have hk : Keep (fun k => B ≤ k) w w' := ⟨k.os, k.tape, k.output, k.size, fun i _ hi => k.block i (by omega)⟩
  exact ⟨hk.cell h.ord (by show ¬ B ≤ b; omega), hk.cell h.cnt (by show ¬ B ≤ b; omega), hk.there h.th (by show ¬ B ≤ b; omega)⟩
theorem wrap_succ (n : Int) : RowKit.wrap64 (RowKit.wrap64 n + 1) = RowKit.wrap64 (n + 1) := by
  unfold RowKit.wrap64; omega

set_option maxRecDepth 100000 in
set_option maxHeartbeats 8000000 in
theorem count_ok (o : Int) (b n : Nat) (x y : Item) (w : World) (h : Cnt o b n w) :
    Calls Try.prog 50 #[.pointer (some ⟨b, 0, none⟩), EI.val x, EI.val y] w fun e w' => e = .returned (.int .i64 (cmpR o x y)) ∧ Cnt o b (n + 1) w' ∧ Keep (fun k => k = b) w w' := by
  show Calls Try.prog 50 #[.pointer (some ⟨b, 0, none⟩), .agg #[.int .i64 x.1, .int .i64 x.2], .agg #[.int .i64 y.1, .int .i64 y.2]] w _
  have H := Lib.hid h
  have hbw : b < w.heap.size := World.block_lt_of_cell? w _ h.ord
  clear h
  obtain ⟨w1, HW1⟩ : ∃ w1, Hid ((w.alloc (.cells #[.int .i64 x.1, .int .i64 x.2] 27)).alloc (.cells #[.int .i64 y.1, .int .i64 y.2] 27) = w1) := ⟨_, Lib.hid rfl⟩
  have HK1 : Hid (Keep (fun _ => False) w w1) := by rw [← HW1.out]; exact ((Keep.refl _ w).alloc _).alloc _
  have x1 : w1.cell? ⟨w.heap.size, 0, none⟩ = some (.int .i64 x.1) := by rw [← HW1.out]; simp
  have x2 : w1.cell? ⟨w.heap.size, 1, none⟩ = some (.int .i64 x.2) := by rw [← HW1.out]; simp
  have y1 : w1.cell? ⟨w.heap.size + 1, 0, none⟩ = some (.int .i64 y.1) := by rw [← HW1.out]; simp
  have y2 : w1.cell? ⟨w.heap.size + 1, 1, none⟩ = some (.int .i64 y.2) := by rw [← HW1.out]; simp
  have HC1 : Hid (Cnt o b n w1) := ⟨HK1.out.cell H.out.ord (fun h => h), HK1.out.cell H.out.cnt (fun h => h), HK1.out.there H.out.th (fun h => h)⟩
  obtain ⟨w2, HW2⟩ : ∃ w2, Hid (w1.setCell ⟨b, 1, none⟩ (.int .i64 (RowKit.wrap64 ((n : Int) + 1))) = w2) := ⟨_, Lib.hid rfl⟩
  have HK2 : Hid (Keep (fun k => k = b) w1 w2) := by rw [← HW2.out]; exact (Keep.refl (fun k => k = b) w1).setCell (fun _ => rfl) _
  have HC2 : Hid (Cnt o b (n + 1) w2) := by
    rw [← HW2.out]
    refine ⟨?_, ?_, World.there_setCells (vs := [_]) HC1.out.th _ _⟩
    · rw [World.cell?_setCell_other _ _ _ _ (fun e => by simp at e)]
      exact HC1.out.ord
    · exact World.cell?_setCell_same _ _ _ HC1.out.cnt
  have HCM := Lib.hid (cmp_ok o x y)
  have c0 := HC1.out.ord
  have c1 := HC1.out.cnt
  have hfz : w1.frozen? ⟨b, 1, none⟩ = false := (HC1.out.th 1 (by decide)).2
  have hws : IntKind.i64.wrap (RowKit.wrap64 (n : Int) + 1) = RowKit.wrap64 ((n : Int) + 1) := by rw [IntWalk.i64_left]; exact wrap_succ (n : Int)
  have HF : Hid (∀ w', Keep (fun _ => False) w2 w' → w'.cell? ⟨b, 0, none⟩ = some (.int .i64 o) ∧ w'.cell? ⟨w.heap.size, 0, none⟩ = some (.int .i64 x.1) ∧ w'.cell? ⟨w.heap.size, 1, none⟩ = some (.int .i64 x.2) ∧ w'.cell? ⟨w.heap.size + 1, 0, none⟩ = some (.int .i64 y.1) ∧ w'.cell? ⟨w.heap.size + 1, 1, none⟩ = some (.int .i64 y.2)) := fun w' hk =>
    ⟨hk.cell HC2.out.ord (fun h => h), hk.cell (HK2.out.cell x1 (by show ¬ w.heap.size = b; omega)) (fun h => h), hk.cell (HK2.out.cell x2 (by show ¬ w.heap.size = b; omega)) (fun h => h), hk.cell (HK2.out.cell y1 (by show ¬ w.heap.size + 1 = b; omega)) (fun h => h), hk.cell (HK2.out.cell y2 (by show ¬ w.heap.size + 1 = b; omega)) (fun h => h)⟩
  clear x1 x2 y1 y2
  go_enter Try.func50, Try.ntmps50
  go_upto_region 1 with (fail)
  rw [HW1.out]
  clear hbw
  go_upto_region 2 with (fail)
  rw [HW2.out]
  have d0 := HC2.out.ord
  refine wp_region_kept (by kernel_rfl) (by kernel_rfl) (QV.out ?_)
  repeat (first
    | (refine kq_skip (by rfl) (fun K hK => ?_); go_simp; refine hK _ ?_; clear hK K)
    | (refine kq_want (by rfl) (fun K hK => ?_); first
        | (refine BigFrame.quiet_move _ rfl ?_; go_simp; refine hK _ ?_; clear hK K)
        | (refine kq_still ?_ (fun w' hw' => ?_) ?_; rotate_left; (obtain ⟨c0', c1', c2', c3', c4'⟩ := HF.out w' hw'; go_simp; first | done | exact rfl); go_simp; refine hK _ ?_; clear hK K)
        | (go_simp; apply Exists.intro; refine ⟨fun w' hw' => ?_, hK _ ?_⟩; (first | (refine (HCM.out w').mono ?_)); rintro e w'' ⟨rfl, hk''⟩; exact ⟨rfl, hw'.then_ hk''⟩; clear hK K)))
  refine ⟨wpQuiet_nil ?_⟩
  intro w3 hk3
  go_wp2_with (fail)
  go_ret
  exact ⟨rfl, ⟨hk3.cell HC2.out.ord (fun h => h), hk3.cell HC2.out.cnt (fun h => h), hk3.there HC2.out.th (fun h => h)⟩, ((HK1.out.mono (fun _ _ h => h.elim)).then_ HK2.out).then_ (hk3.mono (fun _ _ h => h.elim))⟩

theorem lt_two_dig : ∀ n : Nat, n < 2 ^ dig n := by
  intro n
  induction n using Nat.strongRecOn with
  | _ n ih =>
    by_cases h : n = 0
    · subst h; rw [dig_zero]; decide
    · rw [dig_pos (by omega), Nat.pow_succ]
      have := ih (n / 2) (by omega)
      omega
theorem steps_dig {p n : Nat} (h : p = 0 ∨ 2 ^ (p - 1) < n) : p ≤ dig n := by
  rcases h with h | h
  · omega
  · have := lt_two_dig n
    have h2 : 2 ^ (p - 1) < 2 ^ dig n := by omega
    have := (Nat.pow_lt_pow_iff_right (by decide : 1 < 2)).1 h2
    omega
theorem dig_le (n : Nat) (h : n ≤ 1000000000) : dig n ≤ 30 := by
  have := dig_mono n 1000000000 h
  have e : dig 1000000000 = 30 := by kernel_rfl
  omega
theorem digits_ok (n : Nat) (w : World) (hn : n ≤ 1000000000) : Calls Try.prog 49 #[.int .i64 (n : Int)] w (fun e w' => e = .returned (.int .i64 ((dig n : Nat) : Int)) ∧ Keep (fun _ => False) w w') := by
  have HD := Lib.hid (dig_le n hn)
  go_enter Try.func49, Try.ntmps49
  go_wp2_with (fail)
  go_loopw [0, 3] (fun u0 u3 wr => ∃ m d : Nat, u0 = .int .i64 (m : Int) ∧ u3 = .int .i64 (d : Int) ∧ m ≤ 1000000000 ∧ Hid (d + dig m = dig n) ∧ Hid (wr = w)) (fun u0 _ _ => (intOf u0).toNat)
  case atStart => exact ⟨n, 0, rfl, rfl, hn, by unfold Hid; omega, rfl⟩
  case round =>
    obtain ⟨m, d, rfl, rfl, hm, HM, HW⟩ := hrel
    have hd : (d : Int) ≤ 30 := by have := HM.out; have := HD.out; omega
    by_cases h0 : 0 < m
    · have h1 : (0 : Int) < (m : Int) := by omega
      obtain ⟨h, HH⟩ : ∃ h, Hid (m / 2 = h) := ⟨_, Lib.hid rfl⟩
      have hh : (m : Int) / 2 = (h : Int) := by have := HH.out; omega
      have HDP := Lib.hid (dig_pos h0)
      rw [HH.out] at HDP
      go_wp2_with (fail)
      go_roundw
      case rel => exact ⟨h, d + 1, rfl, by go_num, by have := HH.out; omega, by have := HM.out; have := HDP.out; unfold Hid; omega, HW⟩
      case measure => simp [intOf]; omega
    · have hm0 : m = 0 := by omega
      subst hm0
      go_wp2_with (fail)
      go_ret
      have := HM.out
      rw [dig_zero, Nat.add_zero] at this
      subst this
      exact ⟨rfl, by rw [HW.out]; exact Keep.refl _ _⟩
end Go.Proofs.Ytnofckgnnpmiiaa
