/- Twice at the type Item. -/
import Derived.Test.YtnofckgnnpmiiaaTc
import Derived.Test.YtnofckgnnpmiiaaSoN
import Derived.Test.YtnofckgnnpmiiaaFm
namespace Go.Proofs.Ytnofckgnnpmiiaa
open Go.RowKit Go.Shelf
attribute [local go_sem ↓] Go.wp_at_zero Go.wp_at_succ

/-- the least number that is alike the one ahead of it in ps, of the first k + 1 -/
def twF {L : Nat} (c : Fin L → Fin L → Int) (ps : List (Fin L)) : Nat → Int
  | 0 => -1
  | k + 1 => match ps[k]?, ps[k + 1]? with
    | some a, some b => if c a b == 0 && (twF c ps k < 0 || (b.1 : Int) < twF c ps k) then (b.1 : Int) else twF c ps k
    | _, _ => twF c ps k
theorem twF_succ {L : Nat} {c : Fin L → Fin L → Int} {ps : List (Fin L)} {k : Nat} {a b : Fin L} (ha : ps[k]? = some a) (hb : ps[k + 1]? = some b) :
    twF c ps (k + 1) = if c a b == 0 && (twF c ps k < 0 || (b.1 : Int) < twF c ps k) then (b.1 : Int) else twF c ps k := by
  rw [twF, ha, hb]

def TwicePost {α : Type} (c : α → α → Int) (S : Nat → Prop) (I : Nat → World → Prop) (n : Nat) (w : World) (xs : List α) (e : Ending) (w' : World) : Prop :=
  ∃ p, e = .returned (.int .i64 (twF (byPlace c xs) (stepsL (byPlace c xs) (List.finRange xs.length) p) (xs.length - 1))) ∧ xs.length ≤ 2 ^ p ∧ (p = 0 ∨ 2 ^ (p - 1) < xs.length) ∧ Keep S w w' ∧ ∃ q, q ≤ p * xs.length + (xs.length - 1) ∧ I (n + q) w'

/-- numbers that are laid one by one -/
structure Laid (bp len : Nat) (W0 : World) (j : Nat) (W : World) : Prop where
  keep : Keep (fun k => k = bp) W0 W
  th : W.there bp 0 len
  r : W.rangeAt bp 0 ((List.range j).map fun i : Nat => Value.int .i64 (i : Int))
theorem Laid.next {bp len j : Nat} {W0 W : World} (h : Laid bp len W0 j W) (hj : j < len) : Laid bp len W0 (j + 1) (W.setCell ⟨bp, j, none⟩ (.int .i64 (j : Int))) := by
  have hth : (W.setCell ⟨bp, j, none⟩ (.int .i64 (j : Int))).there bp 0 len := there_setCell h.th _ _
  refine ⟨h.keep.setCell (fun _ => rfl) _, hth, ?_⟩
  rw [List.range_succ, List.map_append, range_app]
  refine ⟨fun i v hv => ?_, fun i v hv => ?_⟩
  · have hi := (List.getElem?_eq_some_iff.1 hv).1
    simp only [List.length_map, List.length_range] at hi
    rw [World.cell?_setCell_other _ _ _ _ (fun e => by simp at e; try omega)]
    exact h.r i v hv
  · have hi := (List.getElem?_eq_some_iff.1 hv).1
    simp only [List.map_cons, List.map_nil, List.length_cons, List.length_nil] at hi
    have hi0 : i = 0 := by omega
    subst hi0
    simp only [List.map_cons, List.map_nil, List.getElem?_cons_zero, Option.some.injEq] at hv
    subst hv
    simp only [List.length_map, List.length_range, Nat.add_zero, Nat.zero_add]
    obtain ⟨u, hu⟩ := Option.isSome_iff_exists.1 (h.th j hj).1
    rw [Nat.zero_add] at hu
    exact World.cell?_setCell_same _ _ _ hu
theorem flatMap_one {α β : Type} (g : α → β) (l : List α) : l.flatMap (fun x => [g x]) = l.map g := by
  induction l with
  | nil => rfl
  | cons x l ih => simp [ih]
theorem flat_fin (L : Nat) : (EF L).flat (List.finRange L) = (List.range L).map fun i : Nat => Value.int .i64 (i : Int) := by
  show (List.finRange L).flatMap (fun x => [Value.int .i64 (x.1 : Int)]) = _
  rw [flatMap_one]
  exact List.ext_getElem (by simp) (fun i h1 h2 => by simp)

set_option maxRecDepth 100000 in
set_option maxHeartbeats 8000000 in
theorem twice_any {c : Item → Item → Int} {f : Value} {B : Nat} {S : Nat → Prop} {I : Nat → World → Prop} (hcmp : CmpOk Try.prog EI f c B S I)
   (A : Option Addr) (ca n : Nat) (xs : List Item) (w : World) (hB : B ≤ w.heap.size) (h : Sl EI w A ca xs) (hA : ¬ InB S A) (hl : xs.length ≤ 1000000000) (hI : I n w) :
    Calls Try.prog 24 #[.slice A xs.length ca, f] w (TwicePost c S I n w xs) := by
  obtain ⟨k, first, cap, rfl, eg, hcall⟩ := hcmp.fn
  have HC := Lib.hid hcmp
  have HK := Lib.hid hcall
  have H := Lib.hid h
  have HI := Lib.hid hI
  have HA := Lib.hid hA
  have HL := Lib.hid hl
  clear hcmp hcall h hI hA hl
  have he := fun (w : World) => run_eql_func_nil (P := Try.prog) w 28 Try.underlying28 (.func k) first cap
  go_enter Try.func24, Try.ntmps24
  go_wp2_with (at_make; refine wpList_make_E (EF xs.length) rfl _ _ 98 rfl 3 _ 8 Try.underlying98 info3 xs.length xs.length _ _ rfl rfl rfl rfl (Nat.le_refl _) (by have := HL.out; omega) (by have := HL.out; omega) ?_; intro W0 HW0)
  obtain ⟨b2, hb2⟩ : ∃ b, w.heap.size = b := ⟨_, rfl⟩
  have HB2 := Lib.hid hb2
  have hc2 : Hid (W0.cell? ⟨b2, 0, none⟩ = some (.slice A xs.length ca)) := by
    unfold Hid; rw [HW0.out, ← hb2]
    exact ((Keep.refl (fun _ => False) _).alloc _).cell (((Keep.refl (fun _ => False) _).alloc _).cell (cell_alloc_new w _ 22) (fun h => h)) (fun h => h)
  have hc3 : Hid (W0.cell? ⟨b2 + 1, 0, none⟩ = some (.func (.func k) first cap)) := by
    unfold Hid; rw [HW0.out, ← hb2]
    refine ((Keep.refl (fun _ => False) _).alloc _).cell ?_ (fun h => h)
    have := cell_alloc_new (w.alloc (.cells #[.slice A xs.length ca] 22)) (.func (.func k) first cap) 28
    rwa [World.size_alloc] at this
  have hK0 : Hid (Keep (fun _ => False) w W0) := by unfold Hid; rw [HW0.out]; exact (((Keep.refl _ w).alloc _).alloc _).alloc _
  have hz0 : Hid (W0.heap.size = b2 + 3) := by unfold Hid; rw [HW0.out, ← hb2]; simp
  have hL0 : Hid (Laid (b2 + 1 + 1) xs.length W0 0 W0) := by
    refine ⟨Keep.refl _ _, ?_, range_nil _ _ _⟩
    rw [HW0.out]
    have := there_alloc_new ((w.alloc (.cells #[.slice A xs.length ca] 22)).alloc (.cells #[.func (.func k) first cap] 28)) (madeCells (Value.int .i64 0).cells (xs.length * (EF xs.length).sz)) 3 xs.length (by rw [size_madeCells]; exact Nat.le_of_eq (Nat.mul_one _).symm)
    rw [World.size_alloc, World.size_alloc, hb2] at this
    exact this
  rw [hb2]
  clear hb2 HW0
  go_loopw [16] (fun u16 wr => ∃ j : Nat, j ≤ xs.length ∧ u16 = .int .i64 j ∧ Hid (Laid (b2 + 1 + 1) xs.length W0 j wr)) (fun u16 _ => xs.length - (intOf u16).toNat)
  case atStart => exact ⟨0, Nat.zero_le _, rfl, hL0⟩
  case round =>
    obtain ⟨j, hj, rfl, HJ⟩ := hrel
    have hl1 : xs.length ≤ 1000000000 := HL.out
    by_cases hlt : j < xs.length
    · obtain ⟨⟨u, hu⟩, hfz⟩ : (∃ u, wr.cell? ⟨b2 + 1 + 1, j, none⟩ = some u) ∧ wr.frozen? ⟨b2 + 1 + 1, j, none⟩ = false := by
        have := HJ.out.th j hlt
        rw [Nat.zero_add] at this
        exact ⟨Option.isSome_iff_exists.1 this.1, this.2⟩
      have HN := Lib.hid (HJ.out.next hlt)
      go_wp2
      go_roundw
      case rel => exact ⟨j + 1, by omega, by go_num, HN.out⟩
      case measure => simp [intOf]; omega
    · have hje : j = xs.length := by omega
      have HJE := Lib.hid hje
      clear hje
      have hge : xs.length ≤ j := by omega
      -- the order of the places
      have HKW : Hid (Keep (fun _ => False) w wr) := by
        refine (hK0.out.trans (S' := fun k => k = b2 + 1 + 1) HJ.out.keep (fun k hk e => ?_))
        have := HB2.out; omega
      have hwr : Hid (W0.heap.size ≤ wr.heap.size) := HJ.out.keep.size
      have hn2 : Hid (¬ S b2 ∧ ¬ S (b2 + 1)) := ⟨fun h => by have := HC.out.old _ h; have := HB2.out; omega, fun h => by have := HC.out.old _ h; have := HB2.out; omega⟩
      have hAB : Hid (xs ≠ [] → ∀ a, A = some a → a.block < W0.heap.size) := fun hx a ha => by
        obtain ⟨b, o, hA, hr⟩ := H.out.at_ hx
        rw [ha] at hA; cases hA
        obtain ⟨x0, xr, hxe⟩ := List.exists_cons_of_ne_nil hx
        have := cell_lt (hr 0 _ (by rw [hxe]; rfl))
        have := hK0.out.size
        simp only; omega
      have HOK := Lib.hid (byPlace_ok HC.out A ca b2 (b2 + 1) W0.heap.size xs HA.out (Nat.le_trans hB (hK0.out.size)) (by rw [hz0.out]; omega) (by rw [hz0.out]; omega) hn2.out.1 hn2.out.2 hAB.out)
      have HI0 : Hid (I n wr ∧ Sl EI wr A ca xs ∧ wr.cell? ⟨b2, 0, none⟩ = some (.slice A xs.length ca) ∧ wr.cell? ⟨b2 + 1, 0, none⟩ = some (.func (.func k) first cap)) :=
        ⟨HC.out.stable _ _ _ HI.out (HKW.out.below hB (fun _ _ h => h)), H.out.keep HKW.out (fun ⟨_, _, h⟩ => h), HJ.out.keep.cell hc2.out (by simp only; omega), HJ.out.keep.cell hc3.out (by simp only; omega)⟩
      have HSL : Hid (Sl (EF xs.length) wr (some ⟨b2 + 1 + 1, 0, none⟩) xs.length (List.finRange xs.length)) := by
        refine ⟨by rw [List.length_finRange]; exact Nat.le_refl _, by have := HL.out; omega, fun _ => ⟨_, _, rfl, ?_⟩⟩
        rw [flat_fin]
        have := HJ.out.r
        rw [HJE.out] at this; exact this
      have HSO := Lib.hid (sort_N HOK.out (some ⟨b2 + 1 + 1, 0, none⟩) xs.length n (List.finRange xs.length) wr hwr.out HSL.out (by rw [List.length_finRange]; exact HL.out) HI0.out)
      rw [List.length_finRange] at HSO
      go_wp2_with (go_at_call 59; go_must (refine HSO.out.mono ?_); rintro e w2 ⟨A', c', p, rfl, how, hp1, hp2, hfr, hkp, q, hq, hIq⟩; rw [List.length_finRange] at *; have HOW := Lib.hid how; have HP := Lib.hid (And.intro hp1 hp2); have HFR := Lib.hid hfr; have HKP := Lib.hid hkp; have HIQ := Lib.hid hIq; clear how hp1 hp2 hfr hkp hIq)
      obtain ⟨ps, HPS⟩ : ∃ ps, Hid (stepsL (byPlace c xs) (List.finRange xs.length) p = ps) := ⟨_, Lib.hid rfl⟩
      have hpl : Hid (ps.length = xs.length) := by unfold Hid; rw [← HPS.out, stepsL_len, List.length_finRange]
      rw [HPS.out] at HOW
      have hnA' : Hid (¬ InB S A') := fun ⟨a, ha, hs⟩ => by have := HFR.out a ha; have := HC.out.old _ hs; have := HKW.out.size; omega
      have hcap' : c' ≤ 9223372036854775807 := HOW.out.sl.cap
      have hle' : xs.length ≤ c' := by have := HOW.out.sl.le; rw [hpl.out] at this; exact this
      have hcapA : ca ≤ 9223372036854775807 := H.out.cap
      have hleA : xs.length ≤ ca := H.out.le
      obtain ⟨wo, rfl⟩ : ∃ wo : World, wo = wr := ⟨_, rfl⟩
      go_loopw [7, 8] (fun u7 u8 wv => ∃ (i : Nat) (fv : Int), 1 ≤ i ∧ i ≤ xs.length + 1 ∧ u8 = .int .i64 i ∧ u7 = .int .i64 fv ∧ Hid (fv = twF (byPlace c xs) ps (i - 1)) ∧ Hid (i ≤ 1 ∨ i ≤ xs.length) ∧ Hid (Keep S w2 wv) ∧
          Hid (I (n + q + (i - 1)) wv ∧ Sl EI wv A ca xs ∧ wv.cell? ⟨b2, 0, none⟩ = some (.slice A xs.length ca) ∧ wv.cell? ⟨b2 + 1, 0, none⟩ = some (.func (.func k) first cap)) ∧ Hid (Sl (EF xs.length) wv A' c' ps))
        (fun _ u8 _ => (xs.length + 1) - (intOf u8).toNat)
      case atStart => exact ⟨1, -1, Nat.le_refl _, by omega, rfl, rfl, rfl, .inl (Nat.le_refl _), Keep.refl _ _, HIQ.out, HOW.out.sl⟩
      case round =>
        obtain ⟨i, fv, hi1, hi2, rfl, rfl, HFV, HI2, HKV, HIV, HSV⟩ := hrel
        have hl1 : xs.length ≤ 1000000000 := HL.out
        by_cases hlt2 : i < xs.length
        · have g1 : i - 1 < ps.length := by rw [hpl.out]; omega
          have g2 : i < ps.length := by rw [hpl.out]; omega
          obtain ⟨bp, op, rfl, hp1⟩ := HSV.out.elem g1
          obtain ⟨bp', op', e', hp2⟩ := HSV.out.elem g2
          simp only [Option.some.injEq, Addr.mk.injEq, and_true] at e'
          obtain ⟨rfl, rfl⟩ := e'
          obtain ⟨x, HX⟩ : ∃ x, Hid (ps[i - 1] = x) := ⟨_, Lib.hid rfl⟩
          obtain ⟨y, HY⟩ : ∃ y, Hid (ps[i] = y) := ⟨_, Lib.hid rfl⟩
          rw [HX.out] at hp1
          rw [HY.out] at hp2
          have hpx := hp1 0 _ rfl
          have hpy := hp2 0 _ rfl
          have HTW : Hid (twF (byPlace c xs) ps i = if byPlace c xs x y == 0 && (fv < 0 || (y.1 : Int) < fv) then (y.1 : Int) else fv) := by
            have := twF_succ (c := byPlace c xs) (ps := ps) (k := i - 1) (a := x) (b := y) (by rw [← HX.out]; simp [g1]) (by rw [← HY.out, show i - 1 + 1 = i by omega]; simp [g2])
            rw [show i - 1 + 1 = i by omega, ← HFV.out] at this
            exact this
          clear hp1 hp2 g1 g2 HX HY
          obtain ⟨bl, ol, rfl, hx⟩ := HIV.out.2.1.elem x.2
          obtain ⟨bl', ol', e', hy⟩ := HIV.out.2.1.elem y.2
          simp only [Option.some.injEq, Addr.mk.injEq, and_true] at e'
          obtain ⟨rfl, rfl⟩ := e'
          have hc2r := HIV.out.2.2.1
          have hc3r := HIV.out.2.2.2
          obtain ⟨xv, HXV⟩ : ∃ xv, Hid (xs[x] = xv) := ⟨_, Lib.hid rfl⟩
          obtain ⟨yv, HYV⟩ : ∃ yv, Hid (xs[y] = yv) := ⟨_, Lib.hid rfl⟩
          have hx' : wr.rangeAt bl (ol + x.1 * EI.sz) (EI.cells xv) := by rw [← HXV.out]; exact hx
          have hy' : wr.rangeAt bl (ol + y.1 * EI.sz) (EI.cells yv) := by rw [← HYV.out]; exact hy
          have hx1 := hx' 0 _ rfl
          have hx2 := hx' 1 _ rfl
          have hy1 := hy' 0 _ rfl
          have hy2 := hy' 1 _ rfl
          have HBP : Hid (byPlace c xs x y = c xv yv) := by unfold Hid byPlace; rw [HXV.out, HYV.out]
          have hS1 : ¬ S bl := fun h => HA.out ⟨_, rfl, h⟩
          have hSp : ¬ S bp := fun h => hnA'.out ⟨_, rfl, h⟩
          have nS2 := hn2.out.1
          have nS3 := hn2.out.2
          have hxl : ((x.1 : Nat) : Int) < (xs.length : Int) := by have := x.2; omega
          have hyl : ((y.1 : Nat) : Int) < (xs.length : Int) := by have := y.2; omega
          clear hx hy hx' hy' HXV HYV
          obtain ⟨x, hxx⟩ := x
          obtain ⟨y, hyy⟩ := y
          simp only at hpx hpy hx1 hx2 hy1 hy2 hxl hyl
          simp only [EI, EF, Nat.add_zero, Nat.mul_one] at hpx hpy hx1 hx2 hy1 hy2
          have hx0 : (0 : Int) ≤ (x : Int) := by omega
          have hy0 : (0 : Int) ≤ (y : Int) := by omega
          have hii : (0 : Int) ≤ (i : Int) - 1 := by omega
          have hij : (i : Int) - 1 < (xs.length : Int) := by omega
          have hik : (i : Int) < (xs.length : Int) := by omega
          have HNX : Hid (((i : Int) - 1).toNat = i - 1) := by unfold Hid; omega
          have hwr1 : IntKind.i64.wrap ((i : Int) - 1) = (i : Int) - 1 := IntWalk.i64_in _ (by omega)
          have hone : (1 : Int) ≤ (i : Int) := by omega
          have hpx' : wr.cell? ⟨bp, op + ((i : Int) - 1).toNat, none⟩ = some (.int .i64 (x : Int)) := by rw [HNX.out]; exact hpx
          have HCALL := Lib.hid (HK.out (n + q + (i - 1)) wr.drew xv yv (HC.out.stable _ _ wr.drew HIV.out.1 (Below.drew (Below.refl _ _))))
          have ways : (c xv yv == 0) = false ∨ ((c xv yv == 0) = true ∧ fv < 0) ∨ ((c xv yv == 0) = true ∧ 0 ≤ fv ∧ (y : Int) < fv) ∨ ((c xv yv == 0) = true ∧ 0 ≤ fv ∧ fv ≤ (y : Int)) := by
            cases hcb : (c xv yv == 0)
            · exact .inl rfl
            · rcases Int.lt_or_le fv 0 with h | h
              · exact .inr (.inl ⟨rfl, h⟩)
              · rcases Int.lt_or_le (y : Int) fv with h' | h'
                · exact .inr (.inr (.inl ⟨rfl, h, h'⟩))
                · exact .inr (.inr (.inr ⟨rfl, h, h'⟩))
          rw [HBP.out] at HTW
          go_wp2_with (fail)
          refine wp_region_mid 16 _ rfl rfl (by kernel_rfl) (by kernel_rfl) ?_
          simp only [List.take_succ_cons, List.take_zero]
          repeat still_step
          refine wpStill_nil ?_
          intro K hK
          go_simp
          refine HCALL.out.mono ?_
          rintro e w3 ⟨rfl, hI1, hk1⟩
          refine hK _ _ ?_
          clear hK K
          have h3a := hk1.cell hpx hSp
          have h3b := hk1.cell hpy hSp
          simp only [List.drop_succ_cons, List.drop_zero]
          have HN : Hid (Keep S w2 w3 ∧ (I (n + q + i) w3 ∧ Sl EI w3 (some ⟨bl, ol, none⟩) ca xs ∧ w3.cell? ⟨b2, 0, none⟩ = some (.slice (some ⟨bl, ol, none⟩) xs.length ca) ∧ w3.cell? ⟨b2 + 1, 0, none⟩ = some (.func (.func k) first cap)) ∧ Sl (EF xs.length) w3 (some ⟨bp, op, none⟩) c' ps) := by
            refine ⟨HKV.out.then_ hk1.of_drew, ⟨?_, HIV.out.2.1.keep hk1.of_drew HA.out, hk1.cell hc2r nS2, hk1.cell hc3r nS3⟩, HSV.out.keep hk1.of_drew hnA'.out⟩
            have := hI1
            rwa [show n + q + (i - 1) + 1 = n + q + i by omega] at this
          rcases ways with hcb | ⟨hcb, hf⟩ | ⟨hcb, hf, hf2⟩ | ⟨hcb, hf, hf2⟩
          · have HTV : Hid (fv = twF (byPlace c xs) ps i) := by unfold Hid; rw [HTW.out, hcb]; rfl
            have hcn : ¬ (c xv yv = 0) := by simpa using hcb
            refine Veil.out ?_
            repeat (refine veil_step (fun K hK => ?_); go_simp; refine hK _ ?_; clear hK K)
            refine ⟨wpStill_nil ?_⟩
            go_wp2
            go_roundw
            case rel => exact ⟨i + 1, fv, by omega, by omega, by go_num, rfl, by rw [show i + 1 - 1 = i by omega]; exact HTV, .inr (by omega), HN.out.1, by rw [show i + 1 - 1 = i by omega]; exact HN.out.2.1, HN.out.2.2⟩
            case measure => simp [intOf]; omega
          · have HTV : Hid ((y : Int) = twF (byPlace c xs) ps i) := by unfold Hid; rw [HTW.out, hcb, decide_eq_true hf]; rfl
            have hcn : c xv yv = 0 := by simpa using hcb
            have hfn : ¬ (0 ≤ fv) := by omega
            refine Veil.out ?_
            repeat (refine veil_step (fun K hK => ?_); go_simp; refine hK _ ?_; clear hK K)
            refine ⟨wpStill_nil ?_⟩
            go_wp2
            go_roundw
            case rel => exact ⟨i + 1, (y : Int), by omega, by omega, by go_num, rfl, by rw [show i + 1 - 1 = i by omega]; exact HTV, .inr (by omega), HN.out.1, by rw [show i + 1 - 1 = i by omega]; exact HN.out.2.1, HN.out.2.2⟩
            case measure => simp [intOf]; omega
          · have HTV : Hid ((y : Int) = twF (byPlace c xs) ps i) := by unfold Hid; rw [HTW.out, hcb, decide_eq_true hf2, Bool.or_true]; rfl
            have hcn : c xv yv = 0 := by simpa using hcb
            have hfn : ¬ (fv < 0) := by omega
            refine Veil.out ?_
            repeat (refine veil_step (fun K hK => ?_); go_simp; refine hK _ ?_; clear hK K)
            refine ⟨wpStill_nil ?_⟩
            go_wp2
            go_roundw
            case rel => exact ⟨i + 1, (y : Int), by omega, by omega, by go_num, rfl, by rw [show i + 1 - 1 = i by omega]; exact HTV, .inr (by omega), HN.out.1, by rw [show i + 1 - 1 = i by omega]; exact HN.out.2.1, HN.out.2.2⟩
            case measure => simp [intOf]; omega
          · have HTV : Hid (fv = twF (byPlace c xs) ps i) := by unfold Hid; rw [HTW.out, hcb, decide_eq_false (by omega : ¬ fv < 0), decide_eq_false (by omega : ¬ (y : Int) < fv)]; rfl
            have hcn : c xv yv = 0 := by simpa using hcb
            have hfn : ¬ (fv < 0) := by omega
            have hfy : ¬ ((y : Int) < fv) := by omega
            refine Veil.out ?_
            repeat (refine veil_step (fun K hK => ?_); go_simp; refine hK _ ?_; clear hK K)
            refine ⟨wpStill_nil ?_⟩
            go_wp2
            go_roundw
            case rel => exact ⟨i + 1, fv, by omega, by omega, by go_num, rfl, by rw [show i + 1 - 1 = i by omega]; exact HTV, .inr (by omega), HN.out.1, by rw [show i + 1 - 1 = i by omega]; exact HN.out.2.1, HN.out.2.2⟩
            case measure => simp [intOf]; omega
        · have hge2 : xs.length ≤ i := by omega
          go_wp2
          have hz : twF (byPlace c xs) ps (i - 1) = twF (byPlace c xs) ps (xs.length - 1) := by
            rcases HI2.out with h | h
            · rw [show i - 1 = xs.length - 1 by omega]
            · rw [show i = xs.length by omega]
          go_ret
          refine ⟨p, ?_, HP.out.1, HP.out.2, ?_, q + (i - 1), ?_, ?_⟩
          · rw [HPS.out, ← hz, ← HFV.out]
            rfl
          · exact (HKW.out.mono (fun _ _ h => h.elim)).then_ (HKP.out.then_ HKV.out)
          · have := hq; rcases HI2.out with h | h <;> omega
          · have := HIV.out.1
            rwa [← Nat.add_assoc]
end Go.Proofs.Ytnofckgnnpmiiaa
