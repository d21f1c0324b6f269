/- OrderStands answers true, and keeps all memory that there was. -/
import Derived.Test.YtnofckgnnpmiiaaSh
import Derived.Test.YtnofckgnnpmiiaaFd
import Derived.Test.YtnofckgnnpmiiaaMt
import Derived.Deep.Cut
namespace Go.Proofs.Ytnofckgnnpmiiaa
open Go.RowKit Go.Shelf
attribute [local go_sem ↓] Go.wp_at_zero Go.wp_at_succ

theorem Appended.kept {α : Type} {E : El α} {w w0 w' : World} {A A' : Option Addr} {c' : Nat} {zs : List α} (h : Appended E w A zs A' c' w') (k : Keep nob w0 w) (hA : ∀ a, A = some a → w0.heap.size ≤ a.block) : Keep nob w0 w' :=
  k.trans h.keep (fun b h1 ⟨a, ha, e⟩ => by have := hA a ha; omega)
theorem Appended.fresh {α : Type} {E : El α} {w w0 w' : World} {A A' : Option Addr} {c' : Nat} {zs : List α} (h : Appended E w A zs A' c' w') (k : Keep nob w0 w) (hA : ∀ a, A = some a → w0.heap.size ≤ a.block) : ∀ a, A' = some a → w0.heap.size ≤ a.block := fun a ha => by
  rcases h.lies a ha with ⟨a0, h0, e⟩ | ⟨e, _⟩
  · rw [← e]; exact hA a0 h0
  · rw [e]; exact k.size

set_option maxRecDepth 100000 in
set_option maxHeartbeats 16000000 in
theorem stands_ok (A0 : Option Addr) (c0 : Nat) (xs : List Item) (A1 : Option Addr) (c1 : Nat) (ys : List Item) (o : Int) (w : World) (hx : Sl EI w A0 c0 xs) (hy : Sl EI w A1 c1 ys) (hlx : xs.length ≤ 100000000) (hly : ys.length ≤ 100000000) :
    Calls Try.prog 10 #[.slice A0 xs.length c0, .slice A1 ys.length c1, .int .i64 o] w (fun e w' => e = .returned (.bool true) ∧ Keep nob w w') := by
  have HX := Lib.hid hx
  have HY := Lib.hid hy
  have hlc0 := hx.le
  have hcc0 := hx.cap
  have hlc1 := hy.le
  have hcc1 := hy.cap
  obtain ⟨L1, hL1⟩ : ∃ L, Hid (xs.length = L) := ⟨_, Lib.hid rfl⟩
  obtain ⟨L2, hL2⟩ : ∃ L, Hid (ys.length = L) := ⟨_, Lib.hid rfl⟩
  rw [hL1.out] at hlc0 ⊢
  rw [hL2.out] at hlc1 ⊢
  have HLL1 : Hid (L1 ≤ 100000000) := by unfold Hid; rw [← hL1.out]; omega
  have HLL2 : Hid (L2 ≤ 100000000) := by unfold Hid; rw [← hL2.out]; omega
  have hLb1 : (L1 : Int) ≤ 100000000 := by have := HLL1.out; omega
  have hLb2 : (L2 : Int) ≤ 100000000 := by have := HLL2.out; omega
  clear hx hy hlx hly
  have HF := Lib.hid (by_ok o)
  obtain ⟨az, HAZ⟩ : ∃ az, Hid (numTo xs 0 L1 = az) := ⟨_, Lib.hid rfl⟩
  obtain ⟨bz, HBZ⟩ : ∃ bz, Hid (numTo ys L1 L2 = bz) := ⟨_, Lib.hid rfl⟩
  have HAL : Hid (az.length = L1) := by unfold Hid; rw [← HAZ.out, numTo_len]
  have HBL : Hid (bz.length = L2) := by unfold Hid; rw [← HBZ.out, numTo_len]
  have HPW : Hid ((az ++ bz).Pairwise (fun a b => a.2 < b.2)) := by rw [← HAZ.out, ← HBZ.out]; exact num_pairwise xs ys L1 L2
  have HN1 : Hid (Calls Try.prog 39 #[.slice A0 L1 c0, .int .i64 0] w fun e w' => ∃ A' c', e = .returned (.slice A' L1 c') ∧ Gro w w' A' c' az) := by
    have := numbered_ok A0 c0 L1 0 xs w hL1.out HX.out (by have := HLL1.out; omega) (by omega)
    rw [HAZ.out] at this
    exact this
  have HN2 : Hid (∀ w', Keep nob w w' → Calls Try.prog 39 #[.slice A1 L2 c1, .int .i64 (L1 : Int)] w' fun e w'' => ∃ A' c', e = .returned (.slice A' L2 c') ∧ Gro w' w'' A' c' bz) := fun w' hk => by
    have := numbered_ok A1 c1 L2 L1 ys w' hL2.out (HY.out.keep hk (nobIn _)) (by have := HLL2.out; omega) (by have := HLL1.out; omega)
    rw [HBZ.out] at this
    exact this
  go_enter Try.func10, Try.ntmps10
  have tok1 := Lib.hid True.intro
  go_upto_region 2 with (first
    | (go_at_call 39; have _t := tok1; go_must (refine HN1.out.mono ?_); rintro e w1 ⟨Aa, ca, rfl, hg⟩; have HGa := Lib.hid hg; clear hg _t tok1)
    | (go_at_call 39; go_must (refine (HN2.out w1 HGa.out.keep).mono ?_); rintro e w2 ⟨Ab, cb, rfl, hg⟩; have HGb := Lib.hid hg; clear hg))
  have HKw2 : Hid (Keep nob w w2) := HGa.out.keep.then_ HGb.out.keep
  have HSA : Hid (Sl EI (w2.alloc (.cells #[] 27)) Aa ca az) := (HGa.out.ow.sl.keep HGb.out.keep (nobIn _)).keep ((Keep.refl nob w2).alloc _) (nobIn _)
  have hb1 : (0 + L1) * 16 ≤ 140737488355328 := by have := HLL1.out; omega
  have hb2 : (L1 + L2) * 16 ≤ 140737488355328 := by have := HLL1.out; have := HLL2.out; omega
  have hb3 : 0 + L1 ≤ 9223372036854775807 := by omega
  have hb4 : L1 + L2 ≤ 9223372036854775807 := by omega
  have HKB : Hid (∀ A' c' w', Appended EI (w2.alloc (.cells #[] 27)) (some ⟨w2.heap.size, 0, none⟩) ([] ++ az) A' c' w' → Keep nob w2 w' ∧ Ow EI w' A' c' az ∧ (∀ a, A' = some a → w2.heap.size ≤ a.block) ∧ Sl EI w' Ab cb bz) := fun A' c' w' h => by
    have hf : ∀ a, some (⟨w2.heap.size, 0, none⟩ : Addr) = some a → w2.heap.size ≤ a.block := fun a ha => by obtain rfl := Option.some.inj ha; exact Nat.le_refl _
    have hk := h.kept ((Keep.refl nob w2).alloc _) hf
    have ho := h.ow
    rw [List.nil_append] at ho
    exact ⟨hk, ho, h.fresh ((Keep.refl nob w2).alloc _) hf, HGb.out.ow.sl.keep hk (nobIn _)⟩
  have tok1 := Lib.hid True.intro
  go_upto_region 3 with (first
    | (at_builtin; have _t := tok1; refine wpList_append_ow EI rfl _ _ 22 rfl 27 _ 16 Try.underlying22 info27 rfl (some ⟨w2.heap.size, 0, none⟩) 0 0 rfl [] rfl (Ow.nil_ _ _ _) Aa L1 ca rfl az HAL.out HSA.out hb1 hb3 ?_; intro Ax cx w3 hap; have HX3 := Lib.hid (HKB.out Ax cx w3 hap); clear hap _t tok1)
    | (at_builtin; refine wpList_append_ow EI rfl _ _ 22 rfl 27 _ 16 Try.underlying22 info27 rfl Ax L1 cx rfl az HAL.out HX3.out.2.1 Ab L2 cb rfl bz HBL.out HX3.out.2.2.2 hb2 hb4 ?_; intro Al cl w4 hap; have HAP := Lib.hid hap; clear hap))
  have HOL : Hid (Ow EI w4 Al cl (az ++ bz)) := HAP.out.ow
  have HK24 : Hid (Keep nob w2 w4) := HAP.out.kept HX3.out.1 HX3.out.2.2.1
  obtain ⟨T, HT⟩ : ∃ T, Hid (L1 + L2 = T) := ⟨_, Lib.hid rfl⟩
  have HTL : Hid (T ≤ 1000000000) := by have := HT.out; have := HLL1.out; have := HLL2.out; unfold Hid; omega
  have hTb : (T : Int) ≤ 1000000000 := by have := HTL.out; omega
  have HALL : Hid ((az ++ bz).length = T) := by unfold Hid; rw [List.length_append, HAL.out, HBL.out, HT.out]
  rw [HT.out]
  have HOa : Hid (Ow EI w4 Aa ca az) := HGa.out.ow.keep (HGb.out.keep.then_ HK24.out) (nobIn _)
  have HOb : Hid (Ow EI w4 Ab cb bz) := HGb.out.ow.keep HK24.out (nobIn _)
  have HKw4 : Hid (Keep nob w w4) := HKw2.out.then_ HK24.out
  clear HAP HX3 HKB HSA HGa HGb HKw2 HK24 HN1 HN2 hb1 hb2 hb3 hb4
  obtain ⟨al, HALE⟩ : ∃ al, Hid (az ++ bz = al) := ⟨_, Lib.hid rfl⟩
  rw [HALE.out] at HOL HALL HPW
  have tok1 := Lib.hid True.intro
  have tok2 := Lib.hid True.intro
  go_upto_region 4 with (first
    | (go_at_call 15; go_must (refine (HF.out _).mono ?_); rintro e w' ⟨rfl, hw⟩; replace hw := hw.symm; subst hw)
    | (go_at_call 14; have _t := tok1; go_must (refine (sort_by o Aa ca L1 az w4 HAL.out HOa.out.sl (by have := HLL1.out; omega)).mono ?_); rintro e w5 ⟨As, cs, s, rfl, hz, hs, ho, hf, hk⟩; have HZs := Lib.hid hz; have HSs := Lib.hid hs; have HOs := Lib.hid ho; have HK5 := Lib.hid hk; clear hz hs ho hf hk _t tok1)
    | (go_at_call 14; have _t := tok2; go_must (refine (sort_by o Ab cb L2 bz w5 HBL.out (HOb.out.sl.keep HK5.out (nobIn _)) (by have := HLL2.out; omega)).mono ?_); rintro e w6 ⟨At, ct, t, rfl, hz, hs, ho, hf, hk⟩; have HZt := Lib.hid hz; have HSt := Lib.hid hs; have HOt := Lib.hid ho; have HK6 := Lib.hid hk; clear hz hs ho hf hk _t tok2)
    | (go_at_call 14; go_must (refine (sort_by o Al cl T al w6 HALL.out (HOL.out.sl.keep (HK5.out.then_ HK6.out) (nobIn _)) HTL.out).mono ?_); rintro e w7 ⟨Au, cu, u, rfl, hz, hs, ho, hf, hk⟩; have HZu := Lib.hid hz; have HSu := Lib.hid hs; have HOu := Lib.hid ho; have HK7 := Lib.hid hk; clear hz hs ho hf hk))
  have HKs : Hid (Keep nob w5 w7) := HK6.out.then_ HK7.out
  have HMU : Hid (mergeL (cmpR o) s t = u) := by
    have := HSs.out.merge (cmpR_keyed o) HSt.out
    rw [HALE.out] at this
    exact this.unique HSu.out
  have HC : Hid (Keep nob w7 w7) := Keep.refl _ _
  have HC1 : Hid (∀ w', Keep nob w7 w' → Calls Try.prog 43 #[.slice Au T cu, .int .i64 o] w' fun e w'' => e = .returned (.bool true) ∧ Keep nob w' w'') := fun w' hk =>
    rises_ok o Au cu T u w' HZu.out (HOu.out.sl.keep hk (nobIn _)) HTL.out (fun p y x h1 h2 hc => by
      obtain ⟨g1, g2⟩ := List.getElem?_eq_some_iff.1 h1
      obtain ⟨g3, g4⟩ := List.getElem?_eq_some_iff.1 h2
      have h3 := List.pairwise_iff_getElem.1 HSu.out.up p (p + 1) g1 g3 (by omega)
      rw [g2, g4] at h3
      have h4 : kap o x < kap o y := ((cmpR_keyed o).lt x y).1 hc
      omega)
  have HC2 : Hid (∀ w', Keep nob w7 w' → Calls Try.prog 44 #[.slice Au T cu, .slice Al T cl] w' fun e w'' => e = .returned (.bool true) ∧ Keep nob w' w'') := fun w' hk =>
    shuffled_ok Au Al cu cl T u al w' HSu.out.perm HZu.out (HOu.out.sl.keep hk (nobIn _)) ((HOL.out.sl.keep (HK5.out.then_ HKs.out) (nobIn _)).keep hk (nobIn _)) HTL.out
  have HC3 : Hid (∀ w', Keep nob w7 w' → Calls Try.prog 14 #[.slice Au T cu, .func (.func (byF o)) #[] #[]] w' fun e w'' => ∃ A' c', e = .returned (.slice A' T c') ∧ Ow EI w'' A' c' u ∧ Keep nob w' w'') := fun w' hk =>
    (sort_by o Au cu T u w' HZu.out (HOu.out.sl.keep hk (nobIn _)) HTL.out).mono fun e w'' ⟨A', c', z, h1, h2, h3, h4, h5, h6⟩ => ⟨A', c', h1, by rw [(Sorts.self HSu.out.up).unique h3]; exact h4, h6⟩
  have HC4 : Hid (∀ A9 c9 w', Keep nob w7 w' → Ow EI w' A9 c9 u → Calls Try.prog 17 #[.slice A9 T c9, .slice Au T cu] w' (fun e w'' => e = .returned (.bool true) ∧ Keep nob w' w'')) := fun A9 c9 w' hk ho =>
    same_ok A9 Au c9 cu T u w' HZu.out ho.sl (HOu.out.sl.keep hk (nobIn _)) HTL.out
  have HC5 : Hid (∀ w', Keep nob w7 w' → Calls Try.prog 45 #[.slice As L1 cs, .slice At L2 ct, .func (.func (byF o)) #[] #[]] w' fun e w'' => ∃ b, e = .returned (.slice (some ⟨b, 0, none⟩) T T) ∧ Ow EI w'' (some ⟨b, 0, none⟩) T u ∧ Keep nob w' w'') := fun w' hk => by
    have := merge_free o As At cs ct L1 L2 s t w' HZs.out HZt.out ((HOs.out.sl.keep HKs.out (nobIn _)).keep hk (nobIn _)) ((HOt.out.sl.keep HK7.out (nobIn _)).keep hk (nobIn _)) (by have := HLL1.out; omega) (by have := HLL2.out; omega)
    rw [HMU.out, HT.out] at this
    exact this
  have tok1 := Lib.hid True.intro
  go_wp2_with (first
    | (go_at_call 15; go_must (refine (HF.out _).mono ?_); rintro e w' ⟨rfl, hw⟩; replace hw := hw.symm; subst hw)
    | (go_at_call 43; go_must (refine (HC1.out _ HC.out).mono ?_); rintro e w' ⟨rfl, hk⟩; replace HC := Lib.hid (HC.out.then_ hk); clear hk)
    | (go_at_call 44; go_must (refine (HC2.out _ HC.out).mono ?_); rintro e w' ⟨rfl, hk⟩; replace HC := Lib.hid (HC.out.then_ hk); clear hk)
    | (go_at_call 14; go_must (refine (HC3.out _ HC.out).mono ?_); rintro e w8 ⟨A8, c8, rfl, ho, hk⟩; have HO8 := Lib.hid ho; replace HC := Lib.hid (HC.out.then_ hk); clear ho hk)
    | (go_at_call 17; have _t := tok1; go_must (refine (HC4.out A8 c8 w8 HC.out HO8.out).mono ?_); rintro e w' ⟨rfl, hk⟩; replace HC := Lib.hid (HC.out.then_ hk); clear hk _t tok1)
    | (go_at_call 45; go_must (refine (HC5.out _ HC.out).mono ?_); rintro e w9 ⟨b9, rfl, ho, hk⟩; have HO9 := Lib.hid ho; replace HC := Lib.hid (HC.out.then_ hk); clear ho hk)
    | (go_at_call 17; go_must (refine (HC4.out _ _ w9 HC.out HO9.out).mono ?_); rintro e wl ⟨rfl, hk⟩; have HKl := Lib.hid (HC.out.then_ hk); clear hk))
  have HLEX : Hid (∀ p y x, u[p]? = some y → u[p + 1]? = some x → cmpR o y x = 0 → y.2 < x.2) := fun p y x h1 h2 hc => by
    obtain ⟨g1, g2⟩ := List.getElem?_eq_some_iff.1 h1
    obtain ⟨g3, g4⟩ := List.getElem?_eq_some_iff.1 h2
    have h3 := List.pairwise_iff_getElem.1 (HSu.out.lex HPW.out) p (p + 1) g1 g3 (by omega)
    rw [g2, g4] at h3
    have h4 : kap o y = kap o x := ((cmpR_keyed o).eq y x).1 hc
    rcases h3 with h3 | ⟨_, h3⟩
    · omega
    · exact h3
  clear HC HC1 HC2 HC3 HC4 HC5 HO8 HO9 HMU
  have hcu := HOu.out.sl.cap
  have hlu := HOu.out.sl.le
  rw [HZu.out] at hlu
  go_loopw [13] (fun u13 wr => ∃ i : Nat, 1 ≤ i ∧ u13 = .int .i64 (i : Int) ∧ (i ≤ T ∨ i = 1) ∧ Hid (Keep nob w7 wr)) (fun u13 _ => ((T : Int) - intOf u13).toNat)
  case atStart => exact ⟨1, Nat.le_refl _, rfl, .inr rfl, HKl⟩
  case round =>
    obtain ⟨i, h1, rfl, h2, HKr⟩ := hrel
    by_cases hlt : i < T
    · skip
      have hi0 : (0 : Int) ≤ (i : Int) := by omega
      have hi1 : (i : Int) < (T : Int) := by omega
      have hi2 : (1 : Int) ≤ (i : Int) := by omega
      obtain ⟨p, HP⟩ : ∃ p, Hid (i = p + 1) := ⟨i - 1, by unfold Hid; omega⟩
      have hpi : (i : Int) - 1 = (p : Int) := by have := HP.out; omega
      have hpl : p < T := by have := HP.out; omega
      have hp0 : (0 : Int) ≤ (p : Int) := by omega
      have hp1 : (p : Int) < (T : Int) := by omega
      have hw2 : IntKind.i64.wrap ((i : Int) - 1) = (p : Int) := by rw [hpi, IntWalk.i64_left]; exact IntWalk.wrap64_in _ ⟨by omega, by omega⟩
      have hw4 : IntKind.i64.wrap (p : Int) = (p : Int) := by rw [IntWalk.i64_left]; exact IntWalk.wrap64_in _ ⟨by omega, by omega⟩
      obtain ⟨b1, o1, hAu, hx⟩ := (HOu.out.sl.keep HKr.out (nobIn _)).elem (i := i) (by rw [HZu.out]; exact hlt)
      obtain ⟨b', o', e', hy⟩ := (HOu.out.sl.keep HKr.out (nobIn _)).elem (i := p) (by rw [HZu.out]; exact hpl)
      subst hAu
      simp only [Option.some.injEq, Addr.mk.injEq, and_true] at e'
      obtain ⟨rfl, rfl⟩ := e'
      obtain ⟨x, HXX⟩ : ∃ x, Hid (u[i]'(by rw [HZu.out]; exact hlt) = x) := ⟨_, Lib.hid rfl⟩
      obtain ⟨y, HYY⟩ : ∃ y, Hid (u[p]'(by rw [HZu.out]; exact hpl) = y) := ⟨_, Lib.hid rfl⟩
      have HXE : Hid (u[i]? = some x) := by unfold Hid; rw [← HXX.out]; exact List.getElem?_eq_getElem _
      have HYE : Hid (u[p]? = some y) := by unfold Hid; rw [← HYY.out]; exact List.getElem?_eq_getElem _
      rw [HXX.out] at hx
      rw [HYY.out] at hy
      have hx1 := hx 0 _ rfl
      have hx2 := hx 1 _ rfl
      have hy1 := hy 0 _ rfl
      have hy2 := hy 1 _ rfl
      simp only [EI, Nat.add_zero] at hx1 hx2 hy1 hy2
      have HFF : Hid (∀ w', Kept wr w' → w'.cell? ⟨b1, o1 + i * 2, none⟩ = some (.int .i64 x.1) ∧ w'.cell? ⟨b1, o1 + i * 2 + 1, none⟩ = some (.int .i64 x.2) ∧ w'.cell? ⟨b1, o1 + p * 2, none⟩ = some (.int .i64 y.1) ∧ w'.cell? ⟨b1, o1 + p * 2 + 1, none⟩ = some (.int .i64 y.2)) :=
        fun w' hk => ⟨hk.cell hx1 (fun h => h), hk.cell hx2 (fun h => h), hk.cell hy1 (fun h => h), hk.cell hy2 (fun h => h)⟩
      have HCM := Lib.hid (cmp_ok o y x)
      obtain ⟨cv, HCV⟩ : ∃ cv, Hid (cmpR o y x = cv) := ⟨_, Lib.hid rfl⟩
      rw [HCV.out] at HCM
      clear hx hy HXX HYY hx1 hx2 hy1 hy2
      have hlx := HLEX.out p y x HYE.out (by rw [← HP.out]; exact HXE.out)
      rw [HCV.out] at hlx
      by_cases hcv : cv = 0
      · have hno : ¬ (x.2 ≤ y.2) := by have := hlx hcv; omega
        have hnd : decide (x.2 ≤ y.2) = false := decide_eq_false hno
        have hnd2 : decide (y.2 ≥ x.2) = false := decide_eq_false hno
        subst hcv
        clear hlx
        go_wp2_with (fail)
        refine wp_region_kept (by kernel_rfl) (by kernel_rfl) (QV.out ?_)
        repeat (first
          | (refine kq_skip (by rfl) (fun K hK => ?_); go_simp; refine hK _ ?_; clear hK K)
          | (refine kq_want (by rfl) (fun K hK => ?_); first
              | (refine BigFrame.quiet_move _ rfl ?_; go_simp; refine hK _ ?_; clear hK K)
              | (refine kq_still ?_ (fun w' hw' => ?_) ?_; rotate_left; (obtain ⟨c1', c2', c3', c4'⟩ := HFF.out w' hw'; go_simp; first | done | exact rfl); go_simp; refine hK _ ?_; clear hK K)
              | (go_simp; apply Exists.intro; refine ⟨fun w' hw' => ?_, hK _ ?_⟩; (first | (refine (HCM.out w').mono ?_)); rintro e w'' ⟨rfl, hk''⟩; exact ⟨rfl, hw'.then_ hk''⟩; clear hK K)))
        refine ⟨wpQuiet_nil ?_⟩
        intro wq hkq
        have HKq : Hid (Keep nob w7 wq) := HKr.out.then_ hkq
        clear hkq
        go_wp2_with (fail)
        go_roundw
        case rel => exact ⟨i + 1, by omega, by go_num, .inl hlt, HKq⟩
        case measure => simp [intOf]; omega
      · have hc0 : (cv == 0) = false := by simpa using hcv
        have hc1 : decide (cv = 0) = false := decide_eq_false hcv
        clear hlx
        go_wp2_with (fail)
        refine wp_region_kept (by kernel_rfl) (by kernel_rfl) (QV.out ?_)
        repeat (first
          | (refine kq_skip (by rfl) (fun K hK => ?_); go_simp; refine hK _ ?_; clear hK K)
          | (refine kq_want (by rfl) (fun K hK => ?_); first
              | (refine BigFrame.quiet_move _ rfl ?_; go_simp; refine hK _ ?_; clear hK K)
              | (refine kq_still ?_ (fun w' hw' => ?_) ?_; rotate_left; (obtain ⟨c1', c2', c3', c4'⟩ := HFF.out w' hw'; go_simp; first | done | exact rfl); go_simp; refine hK _ ?_; clear hK K)
              | (go_simp; apply Exists.intro; refine ⟨fun w' hw' => ?_, hK _ ?_⟩; (first | (refine (HCM.out w').mono ?_)); rintro e w'' ⟨rfl, hk''⟩; exact ⟨rfl, hw'.then_ hk''⟩; clear hK K)))
        refine ⟨wpQuiet_nil ?_⟩
        intro wq hkq
        have HKq : Hid (Keep nob w7 wq) := HKr.out.then_ hkq
        clear hkq
        go_wp2_with (fail)
        go_roundw
        case rel => exact ⟨i + 1, by omega, by go_num, .inl hlt, HKq⟩
        case measure => simp [intOf]; omega
    · obtain ⟨we, HWE⟩ : ∃ we, Hid (wr = we) := ⟨_, Lib.hid rfl⟩
      rw [HWE.out] at HKr ⊢
      clear HWE wr
      go_upto_region 12 with (first
        | (go_at_call 15; go_must (refine (HF.out _).mono ?_); rintro e w' ⟨rfl, hw⟩; replace hw := hw.symm; subst hw)
        | (go_at_call 46; go_must (refine (unique_by o Au cu T u we HZu.out (HOu.out.sl.keep HKr.out (nobIn _)) HTL.out).mono ?_); rintro e wu ⟨Ao, co, rfl, ho, hf, hk⟩; have HOo := Lib.hid ho; have HKu := Lib.hid (HKr.out.then_ hk); clear ho hf hk))
      obtain ⟨uz, HUZ⟩ : ∃ uz, Hid (uniqTo (cmpR o) u T = uz) := ⟨_, Lib.hid rfl⟩
      obtain ⟨UL, HUL⟩ : ∃ UL, Hid (uz.length = UL) := ⟨_, Lib.hid rfl⟩
      rw [HUZ.out] at HOo ⊢
      rw [HUL.out]
      have hULT : UL ≤ T := by rw [← HUL.out, ← HUZ.out]; exact uniqTo_le _ _ _
      have hco := HOo.out.sl.cap
      have hlo := HOo.out.sl.le
      rw [HUL.out] at hlo
      have hULb : (UL : Int) ≤ 1000000000 := by omega
      clear h1 h2 hlt HLEX
      go_wp2_with (fail)
      go_loopw [15, 16] (fun u15 u16 wr => ∃ i : Nat, i ≤ T ∧ u16 = .int .i64 (i : Int) ∧ u15 = .int .i64 (((uniqTo (cmpR o) u i).length : Nat) : Int) ∧ Hid (Keep nob wu wr)) (fun _ u16 _ => ((T : Int) - intOf u16).toNat)
      case atStart => exact ⟨0, Nat.zero_le _, rfl, rfl, Keep.refl _ _⟩
      case round =>
        obtain ⟨i, hi, rfl, rfl, HKw⟩ := hrel
        have HKr : Hid (Keep nob w7 wr) := HKu.out.then_ HKw.out
        have hnI := uniqTo_le (cmpR o) u i
        by_cases hlt : i < T
        · by_cases h0 : i = 0
          · subst h0
            have hi1 : (0 : Int) < (T : Int) := by omega
            obtain ⟨b1, o1, hAu, hx⟩ := (HOu.out.sl.keep HKr.out (nobIn _)).elem (i := 0) (by rw [HZu.out]; exact hlt)
            subst hAu
            obtain ⟨x, HXX⟩ : ∃ x, Hid (u[0]'(by rw [HZu.out]; exact hlt) = x) := ⟨_, Lib.hid rfl⟩
            have HXE : Hid (u[0]? = some x) := by unfold Hid; rw [← HXX.out]; exact List.getElem?_eq_getElem _
            rw [HXX.out] at hx
            have hx1 := hx 0 _ rfl
            have hx2 := hx 1 _ rfl
            simp only [EI, Nat.add_zero, Nat.zero_mul] at hx1 hx2
            have HST : Hid (staysB (cmpR o) u 0 = true) := rfl
            have HAT : Hid (uz[0]? = some x) := by
              have := uniqTo_at HST.out HXE.out hlt
              rw [HUZ.out] at this
              exact this
            have hn0 : 0 < UL := by have := (List.getElem?_eq_some_iff.1 HAT.out).1; rw [HUL.out] at this; exact this
            have HU1 : Hid ((uniqTo (cmpR o) u (0 + 1)).length = 0 + 1) := by unfold Hid; rw [uniqTo_stay HST.out HXE.out]; rfl
            obtain ⟨n, HNE⟩ : ∃ n, Hid (n = 0) := ⟨0, rfl⟩
            have hnU : n < UL := by rw [HNE.out]; exact hn0
            clear hx HXX hnI
            rw [show (uniqTo (cmpR o) u 0).length = 0 from rfl]
            go_wp2_with (fail)
            go_quiet (fail)
            obtain ⟨wq, HWQ⟩ : ∃ wq, Hid (wr.drewN nq = wq) := ⟨_, Lib.hid rfl⟩
            have HKq : Hid (Keep nob wr wq) := by rw [← HWQ.out]; exact (Keep.refl _ wr).drewN _
            rw [HWQ.out]
            have d1 := HKq.out.cell hx1 (fun h => h)
            have d2 := HKq.out.cell hx2 (fun h => h)
            clear hx1 hx2
            obtain rfl := HNE.out
            obtain ⟨bo, oo, hAo, hz⟩ := (HOo.out.sl.keep (HKw.out.then_ HKq.out) (nobIn _)).elem (i := 0) (by rw [HUL.out]; exact hnU)
            have hze : uz[0]'(by rw [HUL.out]; exact hnU) = x := (List.getElem?_eq_some_iff.1 HAT.out).2
            rw [hze] at hz
            subst hAo
            have hz1 := hz 0 _ rfl
            have hz2 := hz 1 _ rfl
            simp only [EI, Nat.add_zero, Nat.zero_mul] at hz1 hz2
            have HFZ : Hid (∀ w', Kept wq w' → w'.cell? ⟨bo, oo, none⟩ = some (.int .i64 x.1) ∧ w'.cell? ⟨bo, oo + 1, none⟩ = some (.int .i64 x.2) ∧ w'.cell? ⟨b1, o1, none⟩ = some (.int .i64 x.1) ∧ w'.cell? ⟨b1, o1 + 1, none⟩ = some (.int .i64 x.2)) :=
              fun w' hk => ⟨hk.cell hz1 (fun h => h), hk.cell hz2 (fun h => h), hk.cell d1 (fun h => h), hk.cell d2 (fun h => h)⟩
            have hne : ∀ w, (binOp .neq 27 (.agg #[.int .i64 x.1, .int .i64 x.2]) (.agg #[.int .i64 x.1, .int .i64 x.2])).run Try.prog w = .ok (.bool false) w := fun w => by rw [run_neq_items x x w]; simp
            have hnU2 : (0 : Int) < (UL : Int) := by omega
            have hUz : ¬ (UL = 0) := by omega
            have hUd1 : decide (UL = 0) = false := decide_eq_false hUz
            have hUd2 : decide (UL ≤ 0) = false := decide_eq_false (by omega)
            have hUd3 : decide ((UL : Int) ≤ 0) = false := decide_eq_false (by omega)
            clear hz hze hz1 hz2 d1 d2
            go_wp2_with (fail)
            refine wp_region_kept (by kernel_rfl) (by kernel_rfl) (QV.out ?_)
            repeat (first
              | (refine kq_skip (by rfl) (fun K hK => ?_); go_simp; refine hK _ ?_; clear hK K)
              | (refine kq_want (by rfl) (fun K hK => ?_); first
                  | (refine BigFrame.quiet_move _ rfl ?_; go_simp; refine hK _ ?_; clear hK K)
                  | (refine kq_still ?_ (fun w' hw' => ?_) ?_; rotate_left; (obtain ⟨c1', c2', c3', c4'⟩ := HFZ.out w' hw'; go_simp; first | done | exact rfl); go_simp; refine hK _ ?_; clear hK K)))
            refine ⟨wpQuiet_nil ?_⟩
            intro wz hkz
            have HKz : Hid (Keep nob wu wz) := (HKw.out.then_ HKq.out).then_ hkz
            clear hkz
            go_wp2_with (fail)
            go_roundw
            case rel => exact ⟨0 + 1, hlt, by go_num, by rw [HU1.out]; go_num, HKz⟩
            case measure => simp [intOf]; omega
          · have h1 : 1 ≤ i := by omega
            have hb0 : ((i : Int) == 0) = false := by simpa using h0
            have hb1 : decide ((i : Int) = 0) = false := decide_eq_false (by omega)
            have hb2 : (i == 0) = false := by simpa using h0
            have hi0 : (0 : Int) ≤ (i : Int) := by omega
            have hi1 : (i : Int) < (T : Int) := by omega
            have hi2 : (1 : Int) ≤ (i : Int) := by omega
            obtain ⟨p, HP⟩ : ∃ p, Hid (i = p + 1) := ⟨i - 1, by unfold Hid; omega⟩
            have hpi : (i : Int) - 1 = (p : Int) := by have := HP.out; omega
            have hpl : p < T := by have := HP.out; omega
            have hp0 : (0 : Int) ≤ (p : Int) := by omega
            have hp1 : (p : Int) < (T : Int) := by omega
            have hw2 : IntKind.i64.wrap ((i : Int) - 1) = (p : Int) := by rw [hpi, IntWalk.i64_left]; exact IntWalk.wrap64_in _ ⟨by omega, by omega⟩
            have hw4 : IntKind.i64.wrap (p : Int) = (p : Int) := by rw [IntWalk.i64_left]; exact IntWalk.wrap64_in _ ⟨by omega, by omega⟩
            obtain ⟨b1, o1, hAu, hx⟩ := (HOu.out.sl.keep HKr.out (nobIn _)).elem (i := i) (by rw [HZu.out]; exact hlt)
            obtain ⟨b', o', e', hy⟩ := (HOu.out.sl.keep HKr.out (nobIn _)).elem (i := p) (by rw [HZu.out]; exact hpl)
            subst hAu
            simp only [Option.some.injEq, Addr.mk.injEq, and_true] at e'
            obtain ⟨rfl, rfl⟩ := e'
            obtain ⟨x, HXX⟩ : ∃ x, Hid (u[i]'(by rw [HZu.out]; exact hlt) = x) := ⟨_, Lib.hid rfl⟩
            obtain ⟨y, HYY⟩ : ∃ y, Hid (u[p]'(by rw [HZu.out]; exact hpl) = y) := ⟨_, Lib.hid rfl⟩
            have HXE : Hid (u[i]? = some x) := by unfold Hid; rw [← HXX.out]; exact List.getElem?_eq_getElem _
            have HYE : Hid (u[p]? = some y) := by unfold Hid; rw [← HYY.out]; exact List.getElem?_eq_getElem _
            rw [HXX.out] at hx
            rw [HYY.out] at hy
            have hx1 := hx 0 _ rfl
            have hx2 := hx 1 _ rfl
            have hy1 := hy 0 _ rfl
            have hy2 := hy 1 _ rfl
            simp only [EI, Nat.add_zero] at hx1 hx2 hy1 hy2
            have HFF : Hid (∀ w', Kept wr w' → w'.cell? ⟨b1, o1 + i * 2, none⟩ = some (.int .i64 x.1) ∧ w'.cell? ⟨b1, o1 + i * 2 + 1, none⟩ = some (.int .i64 x.2) ∧ w'.cell? ⟨b1, o1 + p * 2, none⟩ = some (.int .i64 y.1) ∧ w'.cell? ⟨b1, o1 + p * 2 + 1, none⟩ = some (.int .i64 y.2)) :=
              fun w' hk => ⟨hk.cell hx1 (fun h => h), hk.cell hx2 (fun h => h), hk.cell hy1 (fun h => h), hk.cell hy2 (fun h => h)⟩
            have HCM := Lib.hid (cmp_ok o y x)
            obtain ⟨cv, HCV⟩ : ∃ cv, Hid (cmpR o y x = cv) := ⟨_, Lib.hid rfl⟩
            rw [HCV.out] at HCM
            clear hx hy HXX HYY hx1 hx2 hy1 hy2
            have HSB : Hid (staysB (cmpR o) u i = (cv != 0)) := by
              unfold Hid staysB
              rw [HP.out, show p + 1 - 1 = p by omega, HYE.out, ← HP.out, HXE.out]
              rw [HP.out, ← HCV.out]
              rfl
            obtain ⟨n, HNE⟩ : ∃ n, Hid ((uniqTo (cmpR o) u i).length = n) := ⟨_, Lib.hid rfl⟩
            rw [HNE.out] at hnI ⊢
            have hnb : (n : Int) ≤ 1000000000 := by omega
            go_wp2_with (fail)
            refine wp_region_kept (by kernel_rfl) (by kernel_rfl) (QV.out ?_)
            repeat (first
              | (refine kq_skip (by rfl) (fun K hK => ?_); go_simp; refine hK _ ?_; clear hK K)
              | (refine kq_want (by rfl) (fun K hK => ?_); first
                  | (refine BigFrame.quiet_move _ rfl ?_; go_simp; refine hK _ ?_; clear hK K)
                  | (refine kq_still ?_ (fun w' hw' => ?_) ?_; rotate_left; (obtain ⟨c1', c2', c3', c4'⟩ := HFF.out w' hw'; go_simp; first | done | exact rfl); go_simp; refine hK _ ?_; clear hK K)
                  | (go_simp; apply Exists.intro; refine ⟨fun w' hw' => ?_, hK _ ?_⟩; (first | (refine (HCM.out w').mono ?_)); rintro e w'' ⟨rfl, hk''⟩; exact ⟨rfl, hw'.then_ hk''⟩; clear hK K)))
            refine ⟨wpQuiet_nil ?_⟩
            intro wq hkq
            have HKq : Hid (Keep nob wr wq) := hkq
            obtain ⟨d1, d2, -, -⟩ := HFF.out wq hkq
            clear hkq
            by_cases hcv : cv = 0
            · have HST : Hid (staysB (cmpR o) u i = false) := by unfold Hid; rw [HSB.out, hcv]; rfl
              have HU1 : Hid ((uniqTo (cmpR o) u (i + 1)).length = n) := by unfold Hid; rw [uniqTo_go HST.out, HNE.out]
              have HKz : Hid (Keep nob wu wq) := HKw.out.then_ HKq.out
              go_wp2_with (fail)
              go_roundw
              case rel => exact ⟨i + 1, hlt, by go_num, by rw [HU1.out], HKz⟩
              case measure => simp [intOf]; omega
            · have HST : Hid (staysB (cmpR o) u i = true) := by unfold Hid; rw [HSB.out]; simpa using hcv
              have HAT : Hid (uz[n]? = some x) := by
                have := uniqTo_at HST.out HXE.out hlt
                rw [HUZ.out, HNE.out] at this
                exact this
              have hnU : n < UL := by have := (List.getElem?_eq_some_iff.1 HAT.out).1; rw [HUL.out] at this; exact this
              have hnU2 : (n : Int) < (UL : Int) := by omega
              have hnU3 : ¬ (UL ≤ n) := by omega
              have hnU4 : decide (UL ≤ n) = false := decide_eq_false hnU3
              have HU1 : Hid ((uniqTo (cmpR o) u (i + 1)).length = n + 1) := by unfold Hid; rw [uniqTo_stay HST.out HXE.out, List.length_append, HNE.out]; rfl
              obtain ⟨bo, oo, hAo, hz⟩ := (HOo.out.sl.keep (HKw.out.then_ HKq.out) (nobIn _)).elem (i := n) (by rw [HUL.out]; exact hnU)
              have hze : uz[n]'(by rw [HUL.out]; exact hnU) = x := (List.getElem?_eq_some_iff.1 HAT.out).2
              rw [hze] at hz
              subst hAo
              have hz1 := hz 0 _ rfl
              have hz2 := hz 1 _ rfl
              simp only [EI, Nat.add_zero] at hz1 hz2
              have HFZ : Hid (∀ w', Kept wq w' → w'.cell? ⟨bo, oo + n * 2, none⟩ = some (.int .i64 x.1) ∧ w'.cell? ⟨bo, oo + n * 2 + 1, none⟩ = some (.int .i64 x.2) ∧ w'.cell? ⟨b1, o1+i*2, none⟩ = some (.int .i64 x.1) ∧ w'.cell? ⟨b1, o1+i*2 + 1, none⟩ = some (.int .i64 x.2)) :=
                fun w' hk => ⟨hk.cell hz1 (fun h => h), hk.cell hz2 (fun h => h), hk.cell d1 (fun h => h), hk.cell d2 (fun h => h)⟩
              have hne : ∀ w, (binOp .neq 27 (.agg #[.int .i64 x.1, .int .i64 x.2]) (.agg #[.int .i64 x.1, .int .i64 x.2])).run Try.prog w = .ok (.bool false) w := fun w => by rw [run_neq_items x x w]; simp
              clear hz hze hz1 hz2 d1 d2
              go_wp2_with (fail)
              refine wp_region_kept (by kernel_rfl) (by kernel_rfl) (QV.out ?_)
              repeat (first
                | (refine kq_skip (by rfl) (fun K hK => ?_); go_simp; refine hK _ ?_; clear hK K)
                | (refine kq_want (by rfl) (fun K hK => ?_); first
                    | (refine BigFrame.quiet_move _ rfl ?_; go_simp; refine hK _ ?_; clear hK K)
                    | (refine kq_still ?_ (fun w' hw' => ?_) ?_; rotate_left; (obtain ⟨c1', c2', c3', c4'⟩ := HFZ.out w' hw'; go_simp; first | done | exact rfl); go_simp; refine hK _ ?_; clear hK K)))
              refine ⟨wpQuiet_nil ?_⟩
              intro wz hkz
              have HKz : Hid (Keep nob wu wz) := (HKw.out.then_ HKq.out).then_ hkz
              clear hkz
              go_wp2_with (fail)
              go_roundw
              case rel => exact ⟨i + 1, hlt, by go_num, by rw [HU1.out]; go_num, HKz⟩
              case measure => simp [intOf]; omega
        · have hiT : i = T := by omega
          subst hiT
          rw [HUZ.out, HUL.out]
          have HDS : Hid ((∀ j, ¬ dupAt (cmpR o) al j) ↔ UL = i) := by
            have h1 := dup_stays (cmpR_keyed o) HSu.out (r := fun a b => a.2 < b.2) HPW.out (fun a h => by omega) (fun a b h h' => by omega)
            have h2 := uniqTo_all (c := cmpR o) (xs := u) i (by rw [HZu.out]; exact Nat.le_refl _)
            rw [HUZ.out, HUL.out] at h2
            rw [HZu.out] at h1
            exact h1.trans h2.symm
          obtain ⟨k, hkt⟩ := twSpec_exists o al
          have HKT : Hid (Keep nob w4 wr) := HK5.out.then_ (HKs.out.then_ HKr.out)
          have HTD : Hid (Calls Try.prog 24 #[.slice Al i cl, .func (.func (byF o)) #[] #[]] wr (fun e w' => e = .returned (.int .i64 k) ∧ Keep nob wr w')) :=
            twice_det o Al cl i al k hkt wr HALL.out (HOL.out.sl.keep HKT.out (nobIn _)) HTL.out
          have HLV := Lib.hid lives_ok
          have HKwr : Hid (Keep nob w wr) := HKw4.out.then_ HKT.out
          have hor : (k = -1 ∧ UL = i) ∨ (∃ m : Nat, k = (m : Int) ∧ UL ≠ i) := by
            rcases hkt with ⟨h1, h2⟩ | ⟨m, h1, h2, _⟩
            · exact .inl ⟨h1, HDS.out.1 h2⟩
            · exact .inr ⟨m, h1, fun h => HDS.out.2 h m h2⟩
          clear hkt
          rcases hor with ⟨rfl, hU⟩ | ⟨m, rfl, hU⟩
          · subst hU
            go_wp2_with (first
              | (go_at_call 15; go_must (refine (HF.out _).mono ?_); rintro e w' ⟨rfl, hw⟩; replace hw := hw.symm; subst hw)
              | (go_at_call 24; go_must (refine HTD.out.mono ?_); rintro e wx ⟨rfl, hk⟩; have HKx := Lib.hid hk; clear hk)
              | (go_at_call 20; go_must (refine (HLV.out _).mono ?_); rintro e wy ⟨rfl, hk⟩; have HKy := Lib.hid hk; clear hk))
            go_ret
            exact ⟨rfl, (HKwr.out.then_ HKx.out).then_ HKy.out⟩
          · have hm0 : ¬ ((m : Int) < 0) := by omega
            have hm1 : decide ((m : Int) < 0) = false := decide_eq_false hm0
            have hU1 : (UL == i) = false := by simpa using hU
            have hU2 : ((UL : Int) == (i : Int)) = false := by simp; omega
            have hU3 : decide ((UL : Int) = (i : Int)) = false := decide_eq_false (by omega)
            have hU4 : decide (UL = i) = false := decide_eq_false hU
            go_wp2_with (first
              | (go_at_call 15; go_must (refine (HF.out _).mono ?_); rintro e w' ⟨rfl, hw⟩; replace hw := hw.symm; subst hw)
              | (go_at_call 24; go_must (refine HTD.out.mono ?_); rintro e wx ⟨rfl, hk⟩; have HKx := Lib.hid hk; clear hk)
              | (go_at_call 20; go_must (refine (HLV.out _).mono ?_); rintro e wy ⟨rfl, hk⟩; have HKy := Lib.hid hk; clear hk))
            go_ret
            exact ⟨rfl, (HKwr.out.then_ HKx.out).then_ HKy.out⟩
end Go.Proofs.Ytnofckgnnpmiiaa
