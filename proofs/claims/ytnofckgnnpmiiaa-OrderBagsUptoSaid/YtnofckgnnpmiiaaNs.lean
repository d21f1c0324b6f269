/- Merge by an order, of any two lists; numbered, rises, times, shuffled. -/
import Derived.Test.YtnofckgnnpmiiaaMe
import Derived.Test.YtnofckgnnpmiiaaSm
namespace Go.Proofs.Ytnofckgnnpmiiaa
open Go.RowKit Go.Shelf
attribute [local go_sem ↓] Go.wp_at_zero Go.wp_at_succ

theorem Sl.lt {α : Type} {E : El α} {w : World} {A : Option Addr} {c : Nat} {xs : List α} (h : Sl E w A c xs) (hx : xs ≠ []) : ∀ a, A = some a → a.block < w.heap.size := fun a ha => by
  obtain ⟨b, o, e, hr⟩ := h.at_ hx
  rw [e] at ha
  obtain rfl := Option.some.inj ha
  have hpos : 0 < (E.flat xs).length := by
    rw [E.flat_len]
    exact Nat.mul_pos (List.length_pos_iff.2 hx) E.pos
  exact World.block_lt_of_cell? w _ (hr 0 _ (List.getElem?_eq_getElem hpos))

set_option maxRecDepth 100000 in
set_option maxHeartbeats 8000000 in
theorem merge_free (o : Int) (A1 A2 : Option Addr) (c1 c2 L1 L2 : Nat) (xs ys : List Item) (w : World) (hL1 : xs.length = L1) (hL2 : ys.length = L2) (h1 : Sl EI w A1 c1 xs) (h2 : Sl EI w A2 c2 ys) (hl1 : L1 ≤ 500000000) (hl2 : L2 ≤ 500000000) :
    Calls Try.prog 45 #[.slice A1 L1 c1, .slice A2 L2 c2, .func (.func (byF o)) #[] #[]] w fun e w' => ∃ b, e = .returned (.slice (some ⟨b, 0, none⟩) (L1 + L2) (L1 + L2)) ∧ Ow EI w' (some ⟨b, 0, none⟩) (L1 + L2) (mergeL (cmpR o) xs ys) ∧ Keep nob w w' := by
  subst hL1; subst hL2
  by_cases hE : xs = [] ∨ ys = []
  · have he := fun (w : World) => run_eql_func_nil (P := Try.prog) w 28 Try.underlying28 (.func (byF o)) #[] #[]
    have HM : Hid (∀ w1, Hid (w1 = w.alloc (.cells (madeCells (Value.agg #[.int .i64 0, .int .i64 0]).cells ((xs.length + ys.length) * EI.sz)) 27)) → Calls Try.prog 53 #[.slice (some ⟨w.heap.size, 0, none⟩) 0 (xs.length + ys.length), .slice A1 xs.length c1, .slice A2 ys.length c2, .func (.func (byF o)) #[] #[]] w1
        fun e w' => e = .returned (.slice (some ⟨w.heap.size, 0, none⟩) (xs.length + ys.length) (xs.length + ys.length)) ∧ Ow EI w' (some ⟨w.heap.size, 0, none⟩) (xs.length + ys.length) (mergeL (cmpR o) xs ys) ∧ Keep nob w w') := by
      intro w1 HW1
      have hk : Keep (fun _ => False) w w1 := by rw [HW1.out]; exact (Keep.refl _ w).alloc _
      have hO : Ow EI w1 (some ⟨w.heap.size, 0, none⟩) (xs.length + ys.length) ([] : List Item) := by rw [HW1.out]; exact ow_made EI w 27 _ ((0, 0) : Item) rfl 0 _ (Nat.zero_le _) (by omega)
      refine (merge_e A1 A2 c1 c2 w.heap.size _ _ xs ys w1 hE (h1.keep hk (nobIn _)) (h2.keep hk (nobIn _)) (fun a ha hne => by have := h2.lt hne a ha; omega) hO (Nat.le_refl _) (by omega)).mono ?_
      rintro e w' ⟨h3, h4, h5⟩
      refine ⟨h3, by rw [mergeL_empty _ _ _ hE]; exact h4, hk.trans h5 (fun k hk' e' => ?_)⟩
      have e'' : k = w.heap.size := e'
      omega
    clear h1 h2 hE
    go_enter Try.func45, Try.ntmps45
    go_wp2_with (first
      | (at_make; refine wpList_make_E EI rfl _ _ 22 rfl 27 _ 16 Try.underlying22 info27 0 (xs.length + ys.length) _ _ rfl rfl rfl (by simp) (Nat.zero_le _) (by omega) (by omega) ?_; intro w1 HW1)
      | (go_at_call 53; go_must (refine (HM.out w1 HW1).mono ?_); rintro e w' ⟨rfl, ho, hk⟩; have HO := Lib.hid (And.intro ho hk); clear ho hk))
    go_ret
    exact ⟨w.heap.size, rfl, HO.out.1, HO.out.2⟩
  · have hx : xs ≠ [] := fun h => hE (.inl h)
    have hy : ys ≠ [] := fun h => hE (.inr h)
    refine (merge45 (byOk o) A1 A2 c1 c2 xs.length ys.length 0 xs ys w rfl rfl (Nat.zero_le _) h1 h2 (nobIn _) (nobIn _) (by omega) (by omega) (h1.lt hx) (h2.lt hy) trivial).mono ?_
    rintro e w' ⟨h3, h4, _, h5, _⟩
    exact ⟨_, h3, by rw [← mergeL_by]; exact h4, h5⟩

/-- the elements with the numbers of their places -/
def numL (xs : List Item) (from_ : Nat) : List Item := (List.range xs.length).map fun i => (match xs[i]? with | some x => x.1 | none => 0, ((from_ + i : Nat) : Int))
theorem numL_len (xs : List Item) (f : Nat) : (numL xs f).length = xs.length := by simp [numL]
def numTo (xs : List Item) (f n : Nat) : List Item := (List.range n).map fun i => (match xs[i]? with | some x => x.1 | none => 0, ((f + i : Nat) : Int))
theorem numTo_succ (xs : List Item) (f n : Nat) (x : Item) (h : xs[n]? = some x) : numTo xs f (n + 1) = numTo xs f n ++ [(x.1, ((f + n : Nat) : Int))] := by
  simp [numTo, List.range_succ, h]
theorem numTo_len (xs : List Item) (f n : Nat) : (numTo xs f n).length = n := by simp [numTo]

set_option maxRecDepth 100000 in
set_option maxHeartbeats 8000000 in
theorem numbered_ok (A : Option Addr) (c L f : Nat) (xs : List Item) (w : World) (hL : xs.length = L) (h : Sl EI w A c xs) (hl : L ≤ 1000000000) (hf : f ≤ 1000000000) :
    Calls Try.prog 39 #[.slice A L c, .int .i64 (f : Int)] w fun e w' => ∃ A' c', e = .returned (.slice A' L c') ∧ Gro w w' A' c' (numTo xs f L) := by
  have H := Lib.hid h
  have HL := Lib.hid hL
  have hlc := h.le
  rw [hL] at hlc
  have hcc := h.cap
  have hfI : (f : Int) ≤ 1000000000 := by omega
  clear h hL
  go_enter Try.func39, Try.ntmps39
  go_wp2_with (fail)
  go_loopw [5, 6] (fun u5 u6 wr => ∃ (i : Nat) (Aq : Option Addr) (cq : Nat), i ≤ L ∧ u6 = .int .i64 (i : Int) ∧ u5 = .slice Aq i cq ∧ Hid (Gro w wr Aq cq (numTo xs f i))) (fun _ u6 _ => ((L : Int) - intOf u6).toNat)
  case atStart => exact ⟨0, none, 0, Nat.zero_le _, rfl, rfl, Gro.start w⟩
  case round =>
    obtain ⟨i, Aq, cq, hi, rfl, rfl, HG⟩ := hrel
    have hLb : (L : Int) ≤ 1000000000 := by omega
    by_cases hlt : i < L
    · have hi0 : (0 : Int) ≤ (i : Int) := by omega
      have hi1 : (i : Int) < (L : Int) := by omega
      obtain ⟨b1, o1, rfl, hx⟩ := (H.out.keep HG.out.keep (nobIn _)).elem (i := i) (by rw [HL.out]; exact hlt)
      obtain ⟨x, HX⟩ : ∃ x, Hid (xs[i]'(by rw [HL.out]; exact hlt) = x) := ⟨_, Lib.hid rfl⟩
      have HXE : Hid (xs[i]? = some x) := by unfold Hid; rw [← HX.out]; exact List.getElem?_eq_getElem _
      rw [HX.out] at hx
      have hx1 := hx 0 _ rfl
      simp only [EI, Nat.add_zero] at hx1
      clear hx
      have hb16 : (i + 1) * 16 ≤ 140737488355328 := by omega
      obtain ⟨w3, HW3⟩ : ∃ w3, Hid (w3 = wr.alloc (.cells #[.int .i64 x.1, .int .i64 ((f : Int) + (i : Int))] 27)) := ⟨_, Lib.hid rfl⟩
      have HK3 : Hid (Keep nob wr w3) := by rw [HW3.out]; exact (Keep.refl _ wr).alloc _
      have HS3 : Hid (Sl EI w3 (some ⟨wr.heap.size, 0, none⟩) 1 [((x.1, (f : Int) + (i : Int)) : Item)]) := by rw [HW3.out]; exact Sl.one EI wr _ _ 27 rfl
      have HG3 : Hid (Gro w w3 Aq cq (numTo xs f i)) := HG.out.kept HK3.out
      have HNL := Lib.hid (numTo_len xs f i)
      have HE3 := Lib.hid HW3.out.symm
      go_wp2_with (at_builtin; rw [HE3.out]; refine wpList_append_two EI rfl _ _ 22 rfl 27 _ 16 Try.underlying22 info27 rfl Aq i cq rfl (numTo xs f i) HNL.out HG3.out.ow (some ⟨wr.heap.size, 0, none⟩) 1 1 rfl [((x.1, (f : Int) + (i : Int)) : Item)] rfl HS3.out (by decide) hb16 (by omega) ?_; intro A' c' w4 hap; have HAP := Lib.hid hap; clear hap)
      have HG4 : Hid (Gro w w4 A' c' (numTo xs f (i + 1))) := by
        rw [numTo_succ xs f i x HXE.out, Int.natCast_add]
        exact HG3.out.next HAP.out
      clear HAP HG3 HS3 HK3 HE3 HW3 HNL
      go_wp2_with (fail)
      exact ⟨⟨i + 1, A', c', hlt, by go_num, rfl, HG4⟩, by simp [intOf]; omega⟩
    · have hiL : i = L := by omega
      subst hiL
      go_wp2_with (fail)
      go_ret
      exact ⟨Aq, cq, rfl, HG.out⟩

set_option maxRecDepth 100000 in
set_option maxHeartbeats 8000000 in
theorem rises_ok (o : Int) (A : Option Addr) (c L : Nat) (xs : List Item) (w : World) (hL : xs.length = L) (h : Sl EI w A c xs) (hl : L ≤ 1000000000) (hs : ∀ p y x, xs[p]? = some y → xs[p + 1]? = some x → ¬ cmpR o x y < 0) :
    Calls Try.prog 43 #[.slice A L c, .int .i64 o] w fun e w' => e = .returned (.bool true) ∧ Keep nob w w' := by
  have H := Lib.hid h
  have HL := Lib.hid hL
  have HS := Lib.hid hs
  have hlc := h.le
  rw [hL] at hlc
  have hcc := h.cap
  clear h hL hs
  go_enter Try.func43, Try.ntmps43
  go_wp2_with (fail)
  go_loopw [5] (fun u5 wr => ∃ i : Nat, 1 ≤ i ∧ (i ≤ L ∨ i = 1) ∧ u5 = .int .i64 (i : Int) ∧ Hid (Keep nob w wr)) (fun u5 _ => ((L : Int) - intOf u5).toNat)
  case atStart => exact ⟨1, Nat.le_refl _, .inr rfl, rfl, Keep.refl _ w⟩
  case round =>
    obtain ⟨i, h1, h2, rfl, HKr⟩ := hrel
    have hLb : (L : Int) ≤ 1000000000 := by omega
    by_cases hlt : i < L
    · have hi0 : (0 : Int) ≤ (i : Int) := by omega
      have hi1 : (i : Int) < (L : Int) := by omega
      have hi2 : (1 : Int) ≤ (i : Int) := by omega
      obtain ⟨p, HP⟩ : ∃ p, Hid (i = p + 1) := ⟨i - 1, by unfold Hid; omega⟩
      have hpi : (i : Int) - 1 = (p : Int) := by have := HP.out; omega
      have hpl : p < L := by have := HP.out; omega
      have hp0 : (0 : Int) ≤ (p : Int) := by omega
      have hp1 : (p : Int) < (L : Int) := by omega
      have hw2 : IntKind.i64.wrap ((i : Int) - 1) = (p : Int) := by rw [hpi, IntWalk.i64_left]; exact IntWalk.wrap64_in _ ⟨by omega, by omega⟩
      have hw4 : IntKind.i64.wrap (p : Int) = (p : Int) := by rw [IntWalk.i64_left]; exact IntWalk.wrap64_in _ ⟨by omega, by omega⟩
      obtain ⟨b1, o1, rfl, hx⟩ := (H.out.keep HKr.out (nobIn _)).elem (i := i) (by rw [HL.out]; exact hlt)
      obtain ⟨b', o', e', hy⟩ := (H.out.keep HKr.out (nobIn _)).elem (i := p) (by rw [HL.out]; exact hpl)
      simp only [Option.some.injEq, Addr.mk.injEq, and_true] at e'
      obtain ⟨rfl, rfl⟩ := e'
      obtain ⟨x, HX⟩ : ∃ x, Hid (xs[i]'(by rw [HL.out]; exact hlt) = x) := ⟨_, Lib.hid rfl⟩
      obtain ⟨y, HY⟩ : ∃ y, Hid (xs[p]'(by rw [HL.out]; exact hpl) = y) := ⟨_, Lib.hid rfl⟩
      have HXE : Hid (xs[p + 1]? = some x) := by unfold Hid; rw [← HP.out, ← HX.out]; exact List.getElem?_eq_getElem _
      have HYE : Hid (xs[p]? = some y) := by unfold Hid; rw [← HY.out]; exact List.getElem?_eq_getElem _
      rw [HX.out] at hx
      rw [HY.out] at hy
      have hx1 := hx 0 _ rfl
      have hx2 := hx 1 _ rfl
      have hy1 := hy 0 _ rfl
      have hy2 := hy 1 _ rfl
      simp only [EI, Nat.add_zero] at hx1 hx2 hy1 hy2
      have HF : Hid (∀ w', Kept wr w' → w'.cell? ⟨b1, o1 + i * 2, none⟩ = some (.int .i64 x.1) ∧ w'.cell? ⟨b1, o1 + i * 2 + 1, none⟩ = some (.int .i64 x.2) ∧ w'.cell? ⟨b1, o1 + p * 2, none⟩ = some (.int .i64 y.1) ∧ w'.cell? ⟨b1, o1 + p * 2 + 1, none⟩ = some (.int .i64 y.2)) :=
        fun w' hk => ⟨hk.cell hx1 (fun h => h), hk.cell hx2 (fun h => h), hk.cell hy1 (fun h => h), hk.cell hy2 (fun h => h)⟩
      have HCM := Lib.hid (cmp_ok o x y)
      have hcv := HS.out p y x HYE.out HXE.out
      generalize cmpR o x y = cv at HCM hcv
      clear hx hy HX HY hx1 hx2 hy1 hy2
      go_wp2_with (fail)
      refine wp_region_kept (by kernel_rfl) (by kernel_rfl) (QV.out ?_)
      repeat (first
        | (refine kq_skip (by rfl) (fun K hK => ?_); go_simp; refine hK _ ?_; clear hK K)
        | (refine kq_want (by rfl) (fun K hK => ?_); first
            | (refine BigFrame.quiet_move _ rfl ?_; go_simp; refine hK _ ?_; clear hK K)
            | (refine kq_still ?_ (fun w' hw' => ?_) ?_; rotate_left; (obtain ⟨c1, c2, c3, c4⟩ := HF.out w' hw'; go_simp; first | done | exact rfl); go_simp; refine hK _ ?_; clear hK K)
            | (go_simp; apply Exists.intro; refine ⟨fun w' hw' => ?_, hK _ ?_⟩; (first | (refine (HCM.out w').mono ?_)); rintro e w'' ⟨rfl, hk''⟩; exact ⟨rfl, hw'.then_ hk''⟩; clear hK K)))
      refine ⟨wpQuiet_nil ?_⟩
      intro w2 hk2
      have HK2 : Hid (Keep nob w w2) := HKr.out.then_ hk2
      clear hk2
      go_wp2_with (fail)
      go_roundw
      case rel => exact ⟨i + 1, by omega, .inl hlt, by go_num, HK2⟩
      case measure => simp [intOf]; omega
    · go_wp2_with (fail)
      go_ret
      exact ⟨rfl, HKr.out⟩

set_option maxRecDepth 100000 in
set_option maxHeartbeats 8000000 in
theorem times_ok (A : Option Addr) (c L : Nat) (xs : List Item) (x : Item) (w : World) (hL : xs.length = L) (h : Sl EI w A c xs) (hl : L ≤ 1000000000) :
    Calls Try.prog 75 #[.slice A L c, EI.val x] w fun e w' => e = .returned (.int .i64 ((xs.count x : Nat) : Int)) ∧ Keep nob w w' := by
  have H := Lib.hid h
  have HL := Lib.hid hL
  have hlc := h.le
  rw [hL] at hlc
  have hcc := h.cap
  clear h hL
  show Calls Try.prog 75 #[.slice A L c, .agg #[.int .i64 x.1, .int .i64 x.2]] w _
  obtain ⟨w1, HW1⟩ : ∃ w1, Hid (w.alloc (.cells #[.int .i64 x.1, .int .i64 x.2] 27) = w1) := ⟨_, Lib.hid rfl⟩
  have HK1 : Hid (Keep nob w w1) := by rw [← HW1.out]; exact (Keep.refl _ w).alloc _
  have z1 : w1.cell? ⟨w.heap.size, 0, none⟩ = some (.int .i64 x.1) := by rw [← HW1.out]; simp
  have z2 : w1.cell? ⟨w.heap.size, 1, none⟩ = some (.int .i64 x.2) := by rw [← HW1.out]; simp
  go_enter Try.func75, Try.ntmps75
  go_wp2_with (fail)
  rw [HW1.out]
  generalize w.heap.size = bx at *
  go_loopw [5, 6] (fun u5 u6 wr => ∃ i : Nat, i ≤ L ∧ u6 = .int .i64 (i : Int) ∧ u5 = .int .i64 (((xs.take i).count x : Nat) : Int) ∧ Hid (Keep nob w wr) ∧ wr.cell? ⟨bx, 0, none⟩ = some (.int .i64 x.1) ∧ wr.cell? ⟨bx, 1, none⟩ = some (.int .i64 x.2)) (fun _ u6 _ => ((L : Int) - intOf u6).toNat)
  case atStart => exact ⟨0, Nat.zero_le _, rfl, rfl, HK1, z1, z2⟩
  case round =>
    obtain ⟨i, hi, rfl, rfl, HKr, z1, z2⟩ := hrel
    have hLb : (L : Int) ≤ 1000000000 := by omega
    by_cases hlt : i < L
    · have hi0 : (0 : Int) ≤ (i : Int) := by omega
      have hi1 : (i : Int) < (L : Int) := by omega
      obtain ⟨b1, o1, rfl, hy⟩ := (H.out.keep HKr.out (nobIn _)).elem (i := i) (by rw [HL.out]; exact hlt)
      obtain ⟨y, HY⟩ : ∃ y, Hid (xs[i]'(by rw [HL.out]; exact hlt) = y) := ⟨_, Lib.hid rfl⟩
      have HTK : Hid ((xs.take (i + 1)).count x = (xs.take i).count x + if y = x then 1 else 0) := by
        unfold Hid
        rw [List.take_succ_eq_append_getElem (by rw [HL.out]; exact hlt), HY.out, List.count_append]
        by_cases hyx : y = x <;> simp [hyx]
      have HCN : Hid ((xs.take i).count x ≤ i) := by
        have h1 := List.count_le_length (a := x) (l := xs.take i)
        rw [List.length_take] at h1
        unfold Hid
        omega
      rw [HY.out] at hy
      have hy1 := hy 0 _ rfl
      have hy2 := hy 1 _ rfl
      simp only [EI, Nat.add_zero] at hy1 hy2
      have HF : Hid (∀ w', Kept wr w' → w'.cell? ⟨b1, o1 + i * 2, none⟩ = some (.int .i64 y.1) ∧ w'.cell? ⟨b1, o1 + i * 2 + 1, none⟩ = some (.int .i64 y.2) ∧ w'.cell? ⟨bx, 0, none⟩ = some (.int .i64 x.1) ∧ w'.cell? ⟨bx, 1, none⟩ = some (.int .i64 x.2)) :=
        fun w' hk => ⟨hk.cell hy1 (fun h => h), hk.cell hy2 (fun h => h), hk.cell z1 (fun h => h), hk.cell z2 (fun h => h)⟩
      have heq := fun w => run_eql_items y x w
      generalize (xs.take i).count x = cnt at HTK HCN ⊢
      have hcnt : (cnt : Int) ≤ 1000000000 := by have := HCN.out; omega
      clear hy hy1 hy2 z1 z2 HY
      by_cases hyx : y = x
      · have hd : decide (y = x) = true := decide_eq_true hyx
        rw [if_pos hyx] at HTK
        simp only [hd] at heq
        clear hyx
        go_wp2_with (fail)
        refine wp_region_kept (by kernel_rfl) (by kernel_rfl) (QV.out ?_)
        repeat (first
          | (refine kq_skip (by rfl) (fun K hK => ?_); go_simp; refine hK _ ?_; clear hK K)
          | (refine kq_want (by rfl) (fun K hK => ?_); first
              | (refine BigFrame.quiet_move _ rfl ?_; go_simp; refine hK _ ?_; clear hK K)
              | (refine kq_still ?_ (fun w' hw' => ?_) ?_; rotate_left; (obtain ⟨c1, c2, c3, c4⟩ := HF.out w' hw'; go_simp; first | done | exact rfl); go_simp; refine hK _ ?_; clear hK K)))
        refine ⟨wpQuiet_nil ?_⟩
        intro w2 hk2
        have HK2 : Hid (Keep nob w w2) := HKr.out.then_ hk2
        obtain ⟨c1, c2, c3, c4⟩ := HF.out w2 hk2
        clear hk2 heq
        go_wp2_with (fail)
        go_roundw
        case rel => exact ⟨i + 1, hlt, by go_num, by rw [HTK.out]; go_num, HK2, c3, c4⟩
        case measure => simp [intOf]; omega
      · have hd : decide (y = x) = false := decide_eq_false hyx
        rw [if_neg hyx] at HTK
        simp only [hd] at heq
        clear hyx
        go_wp2_with (fail)
        refine wp_region_kept (by kernel_rfl) (by kernel_rfl) (QV.out ?_)
        repeat (first
          | (refine kq_skip (by rfl) (fun K hK => ?_); go_simp; refine hK _ ?_; clear hK K)
          | (refine kq_want (by rfl) (fun K hK => ?_); first
              | (refine BigFrame.quiet_move _ rfl ?_; go_simp; refine hK _ ?_; clear hK K)
              | (refine kq_still ?_ (fun w' hw' => ?_) ?_; rotate_left; (obtain ⟨c1, c2, c3, c4⟩ := HF.out w' hw'; go_simp; first | done | exact rfl); go_simp; refine hK _ ?_; clear hK K)))
        refine ⟨wpQuiet_nil ?_⟩
        intro w2 hk2
        have HK2 : Hid (Keep nob w w2) := HKr.out.then_ hk2
        obtain ⟨c1, c2, c3, c4⟩ := HF.out w2 hk2
        clear hk2 heq
        go_wp2_with (fail)
        go_roundw
        case rel => exact ⟨i + 1, hlt, by go_num, by rw [HTK.out]; rfl, HK2, c3, c4⟩
        case measure => simp [intOf]; omega
    · have hiL : i = L := by omega
      subst hiL
      have e1 : xs.take i = xs := List.take_of_length_le (by rw [HL.out]; exact Nat.le_refl _)
      rw [e1]
      go_wp2_with (fail)
      go_ret
      exact ⟨rfl, HKr.out⟩
end Go.Proofs.Ytnofckgnnpmiiaa
