/- The walk of merge, at the type Item. -/
import Derived.Test.YtnofckgnnpmiiaaMr
namespace Go.Proofs.Ytnofckgnnpmiiaa
open Go.RowKit
attribute [local go_sem ↓] Go.wp_at_zero Go.wp_at_succ

set_option maxHeartbeats 1000000 in
theorem merge_any {c : Item → Item → Int} {f : Value} {B : Nat} {S : Nat → Prop} {I : Nat → World → Prop} (hcmp : CmpOk Try.prog EI f c B S I)
   (A1 A2 : Option Addr) (c1 c2 tb to_ tc n : Nat) (xs ys : List Item) (w : World)
   (hB : B ≤ w.heap.size) (htb : B ≤ tb) (h1 : Sl EI w A1 c1 xs) (h2 : Sl EI w A2 c2 ys) (ha1 : ¬ InB (fun k => S k ∨ k = tb) A1) (ha2 : ¬ InB (fun k => S k ∨ k = tb) A2)
   (hth : w.there tb to_ ((xs.length + ys.length) * EI.sz)) (htc : xs.length + ys.length ≤ tc) (hI : I n w) :
    Calls Try.prog 53 #[.slice (some ⟨tb, to_, none⟩) 0 tc, .slice A1 xs.length c1, .slice A2 ys.length c2, f] w fun e w' =>
      e = .returned (.slice (some ⟨tb, to_, none⟩) (xs.length + ys.length) tc) ∧ w'.rangeAt tb to_ (EI.flat (mergeL c xs ys)) ∧ Fill S tb to_ ((xs.length + ys.length) * EI.sz) w w' ∧ ∃ q, q ≤ xs.length + ys.length ∧ I (n + q) w' := by
  obtain ⟨k, first, cap, rfl, eg, hcall⟩ := hcmp.fn
  have HC := Lib.hid hcmp
  have HK := Lib.hid hcall
  have HS : Hid (¬ S tb) := fun h => by have := hcmp.old tb h; omega
  have HT := Lib.hid hth
  have H0 : Hid (MR EI c S I n tb to_ xs ys w [] xs ys A1 c1 A2 c2 w) := ⟨h1, h2, ha1, ha2, rfl, by simp, range_nil _ _ _, Fill.refl _ _ _ _ _, 0, by simp, hI⟩
  clear hcmp hcall h1 h2 ha1 ha2 hth hI
  go_enter Try.func53, Try.ntmps53
  go_wp2
  go_loopw [0, 1, 2] (fun u0 u1 u2 wr => ∃ (ms al bl : List Item) (A' B' : Option Addr) (c1' c2' : Nat),
     u0 = .slice (some ⟨tb, to_, none⟩) ms.length tc ∧ u1 = .slice A' al.length c1' ∧ u2 = .slice B' bl.length c2' ∧ Hid (MR EI c S I n tb to_ xs ys w ms al bl A' c1' B' c2' wr))
    (fun _ u1 u2 _ => match u1, u2 with | .slice _ p _, .slice _ q _ => p + q | _, _ => 0)
  case atStart => exact ⟨[], xs, ys, A1, A2, c1, c2, rfl, rfl, rfl, H0⟩
  case round =>
    obtain ⟨ms, al, bl, A', B', c1', c2', rfl, rfl, rfl, HR⟩ := hrel
    have hle1 := HR.out.sa.le
    have hle2 := HR.out.sb.le
    have hca1 := HR.out.sa.cap
    have hca2 := HR.out.sb.cap
    have hBr : B ≤ wr.heap.size := Nat.le_trans hB HR.out.fill.keep.size
    obtain ⟨q, hq, hIq⟩ := HR.out.q
    have HQ := Lib.hid hIq
    clear hIq
    by_cases hp : 0 < al.length ∧ 0 < bl.length
    · obtain ⟨hpa, hpb⟩ := hp
      obtain ⟨b1, o1, rfl, hx⟩ := HR.out.sa.elem hpa
      obtain ⟨b2, o2, rfl, hy⟩ := HR.out.sb.elem hpb
      have hx1 := hx 0 _ rfl
      have hx2 := hx 1 _ rfl
      have hy1 := hy 0 _ rfl
      have hy2 := hy 1 _ rfl
      obtain ⟨x, HX⟩ : ∃ x, Hid (al[0] = x) := ⟨al[0], Lib.hid rfl⟩
      obtain ⟨y, HY⟩ : ∃ y, Hid (bl[0] = y) := ⟨bl[0], Lib.hid rfl⟩
      rw [HX.out] at hx1 hx2
      rw [HY.out] at hy1 hy2
      clear hx hy
      simp only [Nat.zero_mul, Nat.add_zero] at hx1 hx2 hy1 hy2
      have hS1 : ¬ S b1 := fun h => HR.out.na ⟨_, rfl, .inl h⟩
      have hS2 : ¬ S b2 := fun h => HR.out.nb ⟨_, rfl, .inl h⟩
      have hlen : ms.length + 1 ≤ tc := by have := HR.out.len; omega
      have HTH := Lib.hid (HR.out.room HT.out)
      go_wp2
      go_region_held3 (fun w' => w'.cell? ⟨b1, o1, none⟩ = some (.int .i64 x.1) ∧ w'.cell? ⟨b1, o1 + 1, none⟩ = some (.int .i64 x.2) ∧ w'.cell? ⟨b2, o2, none⟩ = some (.int .i64 y.1) ∧ w'.cell? ⟨b2, o2 + 1, none⟩ = some (.int .i64 y.2)) (first | go_keep | exact ⟨hk1.cell hx1 hS1, hk1.cell hx2 hS1, hk1.cell hy1 hS2, hk1.cell hy2 hS2⟩)
        ((refine (HK.out (n + q) _ y x (HC.out.stable _ _ _ HQ.out (Below.drew (Below.refl _ _)))).mono ?_; rintro e w1 ⟨rfl, hI1, hk1⟩))
      clear hS1 hS2
      rename_i hHeld
      obtain ⟨hx1', hx2', hy1', hy2'⟩ := hHeld
      have HK1 := Lib.hid hk1.of_drew
      have HI1 := Lib.hid hI1
      clear hx1 hx2 hy1 hy2 hk1 hI1
      by_cases hcv : c y x < 0
      · go_wp2_with (at_builtin; refine wpList_append_E EI rfl _ _ 22 rfl 27 Try.underlying22 (by kernel_rfl) tb to_ ms.length tc rfl (some ⟨w1.heap.size, 0, none⟩) 1 1 rfl [y] rfl (Sl.one EI w1 y _ 27 rfl) hlen ?c2 ?_)
        case c2 => exact there_sub ((HK1.out.alloc _).there HTH.out HS.out) (Nat.le_refl _) (Nat.add_le_add_left (Nat.mul_le_mul_right EI.sz (show 1 ≤ al.length + bl.length by omega)) _)
        refine ⟨⟨ms ++ [y], al, bl.drop 1, _, cutA (some ⟨b2, o2, none⟩) c2' 1 EI.sz, c1', c2' - 1, by simp, rfl, ?_, ?_⟩, ?_⟩
        · rw [← cutA_some b2 o2 c2' EI.sz (by omega), List.length_drop]; rfl
        · exact HR.out.stepY HS.out hBr htb HC.out.stable HT.out HK1.out hq HI1.out (x := x) (y := y) (by rw [← HX.out]; simp [hpa]) (by rw [← HY.out]; simp [hpb]) hcv _ rfl
        · show al.length + (bl.length - 1) < al.length + bl.length; omega
      · go_wp2_with (at_builtin; refine wpList_append_E EI rfl _ _ 22 rfl 27 Try.underlying22 (by kernel_rfl) tb to_ ms.length tc rfl (some ⟨w1.heap.size, 0, none⟩) 1 1 rfl [x] rfl (Sl.one EI w1 x _ 27 rfl) hlen ?c2 ?_)
        case c2 => exact there_sub ((HK1.out.alloc _).there HTH.out HS.out) (Nat.le_refl _) (Nat.add_le_add_left (Nat.mul_le_mul_right EI.sz (show 1 ≤ al.length + bl.length by omega)) _)
        refine ⟨⟨ms ++ [x], al.drop 1, bl, cutA (some ⟨b1, o1, none⟩) c1' 1 EI.sz, _, c1' - 1, c2', by simp, ?_, rfl, ?_⟩, ?_⟩
        · rw [← cutA_some b1 o1 c1' EI.sz (by omega), List.length_drop]; rfl
        · exact HR.out.stepX HS.out hBr htb HC.out.stable HT.out HK1.out hq HI1.out (x := x) (y := y) (by rw [← HX.out]; simp [hpa]) (by rw [← HY.out]; simp [hpb]) (by omega) _ rfl
        · show (al.length - 1) + bl.length < al.length + bl.length; omega
    · have HE : Hid (al = [] ∨ bl = []) := by
        rcases Nat.eq_zero_or_pos al.length with h | h
        · exact .inl (List.eq_nil_of_length_eq_zero h)
        · exact .inr (List.eq_nil_of_length_eq_zero (by omega))
      have HL := Lib.hid HR.out.len
      have hl1 : ms.length + al.length ≤ tc := by have := HL.out; omega
      have hl2 : ms.length + al.length + bl.length ≤ tc := by have := HL.out; omega
      have HTH := Lib.hid (HR.out.room HT.out)
      have HTA : Hid (wr.there tb (to_ + ms.length * EI.sz) (al.length * EI.sz)) := there_sub HTH.out (Nat.le_refl _) (by rw [Nat.add_mul]; omega)
      have HTB : Hid (∀ w1, w1 = wr.setCells tb (to_ + ms.length * EI.sz) (EI.flat al) → w1.there tb (to_ + (ms.length + al.length) * EI.sz) (bl.length * EI.sz)) := fun w1 hw1 => by
        rw [hw1]
        exact World.there_setCells (there_sub HTH.out (by rw [Nat.add_mul]; omega) (by rw [Nat.add_mul, Nat.add_mul]; omega)) _ _ _
      have HSB : Hid (∀ w1, w1 = wr.setCells tb (to_ + ms.length * EI.sz) (EI.flat al) → Sl EI w1 B' c2' bl) := fun w1 hw1 => by
        rw [hw1]
        exact HR.out.sb.keep ((Keep.refl (fun k => S k ∨ k = tb) wr).setCells _ _ (fun _ => .inr rfl)) HR.out.nb
      have tok1 : True := trivial
      rcases Nat.eq_zero_or_pos al.length with h0 | h0
      all_goals
        first | (have h1 : al.length ≤ 0 := Nat.le_of_eq h0; clear h0) | (have h1 : bl.length ≤ 0 := by omega)
        go_wp2_with (first
          | (at_builtin; have _t := tok1; refine wpList_append_E EI rfl _ _ 22 rfl 27 Try.underlying22 (by kernel_rfl) tb to_ ms.length tc rfl A' al.length c1' rfl al rfl HR.out.sa hl1 HTA.out ?_; intro w1 hw1; have HW1 := Lib.hid hw1; clear hw1 tok1)
          | (at_builtin; refine wpList_append_E EI rfl _ _ 22 rfl 27 Try.underlying22 (by kernel_rfl) tb to_ (ms.length + al.length) tc rfl B' bl.length c2' rfl bl rfl (HSB.out _ HW1.out) hl2 (HTB.out _ HW1.out) ?_; intro w2 hw2; have HW2 := Lib.hid hw2; clear hw2))
        go_ret
        refine ⟨by rw [HL.out]; rfl, HR.out.finish hBr htb HC.out.stable HT.out HE.out HW1.out HW2.out⟩
end Go.Proofs.Ytnofckgnnpmiiaa
