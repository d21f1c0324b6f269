/- A bag of Items: Add. -/
import Derived.Test.YtnofckgnnpmiiaaBg
import Derived.Test.YtnofckgnnpmiiaaFg
namespace Go.Proofs.Ytnofckgnnpmiiaa
open Go.RowKit Go.Shelf
attribute [local go_sem ↓] Go.wp_at_zero Go.wp_at_succ

/-- what Add and Take may write: the order's own, the bag, its heap -/
def MayB (S : Nat → Prop) (b : Nat) (A : Option Addr) : Nat → Prop := fun k => S k ∨ k = b ∨ AtB A k

def AddPost (c : Item → Item → Int) (S : Nat → Prop) (I : Nat → World → Prop) (f : Value) (b n m D : Nat) (A : Option Addr) (hs : List (Held Item)) (xs : List Item) (w : World) (e : Ending) (w' : World) : Prop :=
  e = .returned (.tuple #[]) ∧ ∃ A' ca', Bg w' b f A' ca' (addL c hs m xs) (m + xs.length) ∧ (∀ a, A' = some a → AtB A a.block ∨ w.heap.size ≤ a.block) ∧ Keep (MayB S b A) w w' ∧ ∃ q, q ≤ xs.length * D ∧ I (n + q) w'

set_option maxRecDepth 100000 in
set_option maxHeartbeats 8000000 in
theorem add_ok {c : Item → Item → Int} {f : Value} {B : Nat} {S : Nat → Prop} {I : Nat → World → Prop} (hcmp : CmpOk Try.prog EI f c B S I)
   (b n m D : Nat) (A X : Option Addr) (ca cx : Nat) (hs : List (Held Item)) (xs : List Item) (w : World) (hB : B ≤ w.heap.size) (h : Bg w b f A ca hs m) (hb : B ≤ b) (hA : ∀ a, A = some a → B ≤ a.block)
   (hx : Sl EI w X cx xs) (hX : ∀ a, X = some a → ¬ MayB S b A a.block) (hI : I n w) (hl : hs.length + xs.length ≤ 1000000000) (hm : m + xs.length ≤ 1000000000) (hD : hs.length + xs.length ≤ 2 ^ D) :
    Calls Try.prog 40 #[.pointer (some ⟨b, 0, none⟩), .slice X xs.length cx] w (AddPost c S I f b n m D A hs xs w) := by
  obtain ⟨k, first, cap, rfl, -, -⟩ := hcmp.fn
  have HC := Lib.hid hcmp
  have H := Lib.hid h
  have HI := Lib.hid hI
  have HX := Lib.hid (And.intro hx hX)
  have HS := Lib.hid (And.intro hb hA)
  have HL := Lib.hid (And.intro hl (And.intro hm hD))
  have HT := Lib.hid (there_ok k first cap b w h.cmp)
  have hcx : cx ≤ 9223372036854775807 := hx.cap
  have hlx : xs.length ≤ cx := hx.le
  clear hcmp h hI hx hX hb hA hl hm hD
  go_enter Try.func40, Try.ntmps40
  go_wp2_with (go_at_call 69; go_must (refine HT.out.mono ?_); rintro e w2 ⟨rfl, hw2⟩; replace hw2 := hw2.symm; subst hw2)
  go_loopw [13] (fun u13 wr => ∃ (j q : Nat) (A' : Option Addr) (ca' : Nat), j ≤ xs.length ∧ u13 = .int .i64 (j : Int) ∧ Hid (Bg wr b (.func (.func k) first cap) A' ca' (addL c hs m (xs.take j)) (m + j)) ∧
      Hid (∀ a, A' = some a → AtB A a.block ∨ w.heap.size ≤ a.block) ∧ Hid (Keep (MayB S b A) w wr) ∧ Hid (q ≤ j * D) ∧ Hid (I (n + q) wr))
    (fun u13 _ => xs.length - (intOf u13).toNat)
  case atStart => exact ⟨0, 0, A, ca, Nat.zero_le _, rfl, H, fun a ha => .inl ⟨a, ha, rfl⟩, Keep.refl _ _, Nat.zero_le _, HI⟩
  case round =>
    obtain ⟨j, q, A', ca', hj, rfl, HBG, HAF, HKP, HQ, HIQ⟩ := hrel
    have hl1 : xs.length ≤ 1000000000 := by have := HL.out.1; omega
    by_cases hlt : j < xs.length
    · obtain ⟨bx, ox, rfl, hxr⟩ := (HX.out.1.keep HKP.out (fun ⟨a, ha, h⟩ => HX.out.2 a ha h)).elem hlt
      obtain ⟨x, HXE⟩ : ∃ x, Hid (xs[j] = x) := ⟨_, Lib.hid rfl⟩
      rw [HXE.out] at hxr
      have hx1 := hxr 0 _ rfl
      have hx2 := hxr 1 _ rfl
      simp only [EI, Nat.add_zero] at hx1 hx2
      clear hxr
      have hj0 : (0 : Int) ≤ (j : Int) := by omega
      have hj1 : (j : Int) < (xs.length : Int) := by omega
      go_wp2_with (fail)
      -- one more element at the heap's end
      obtain ⟨L, HLL⟩ : ∃ L, Hid ((addL c hs m (xs.take j)).length = L) := ⟨_, Lib.hid rfl⟩
      have hb1 := HBG.out.heap
      have hb2 := HBG.out.next
      rw [HLL.out] at hb1
      obtain ⟨w1, HW1⟩ : ∃ w1, Hid (w1 = wr.alloc (.cells #[.int .i64 x.1, .int .i64 x.2] 27)) := ⟨_, Lib.hid rfl⟩
      have hk1 : Keep (fun _ => False) wr w1 := by rw [HW1.out]; exact (Keep.refl _ _).alloc _
      have h11 := hk1.cell hb1 (fun h => h)
      have h12 := hk1.cell hb2 (fun h => h)
      have there1 := hk1.there HBG.out.th (fun h => h)
      have hy : w1.rangeAt wr.heap.size 0 (EI.cells x) := by rw [HW1.out]; exact range_alloc_new wr _ _ _ (fun i v h => by simpa [EI] using h)
      have hy1 := hy 0 _ rfl
      have hy2 := hy 1 _ rfl
      simp only [Nat.zero_add] at hy1 hy2
      have HOW := Lib.hid (HBG.out.ow.keep hk1 (fun ⟨_, _, h⟩ => h))
      obtain ⟨Wz, hWz⟩ : ∃ z, wr.heap.size = z := ⟨_, rfl⟩
      have HWZ := Lib.hid hWz
      rw [hWz] at hy1 hy2
      rw [← HW1.out, hWz]
      clear hWz hy hb1 hb2 hk1 hx1 hx2
      have hapd : ∀ wq : World, Keep (fun _ => False) w1 wq → Ow EHI wq A' ca' (addL c hs m (xs.take j)) := fun wq hk => HOW.out.keep hk (fun ⟨_, _, h⟩ => h)
      have HAPD := Lib.hid hapd
      clear hapd
      refine wp_region_grow [(true, 0), (true, 1), (true, 2), (true, 3), (true, 4), (true, 5), (true, 6), (true, 7), (true, 8), (true, 9), (true, 10), (false, 11), (false, 12)] 13 #[true, true, true, true, true, true, true, true, true, true, true, true, true, false, false, false]
        (fun w' => w'.cell? ⟨b, 1, none⟩ = some (.slice A' L ca') ∧ w'.cell? ⟨b, 2, none⟩ = some (.int .i64 ((m + j : Nat) : Int)) ∧ w'.cell? ⟨Wz, 0, none⟩ = some (.int .i64 x.1) ∧ w'.cell? ⟨Wz, 1, none⟩ = some (.int .i64 x.2)) (by kernel_rfl) (by kernel_rfl) (by kernel_rfl) (by rfl) (fun _ _ _ _ _ h => h) ⟨h11, h12, hy1, hy2⟩ ?_
      simp only [List.take_succ_cons, List.take_zero, List.map_cons, List.map_nil]
      repeat
        (refine veilG_take ?_ (by rfl) ?_ ?_
         rotate_left
         · intro w' hS; obtain ⟨s1, s2, s3, s4⟩ := hS; go_simp; try (with_reducible rfl)
         simp only [Act.put, List.setIfInBounds_toArray, List.set_cons_zero, List.set_cons_succ])
      refine veilG_solo (fun K' hK => ?_)
      go_simp
      obtain ⟨cs, HCS⟩ : ∃ cs, Hid (cs = #[Value.int .i64 x.1, Value.int .i64 x.2, Value.int .i64 ((m : Int) + j)]) := ⟨_, Lib.hid rfl⟩
      rw [← HCS.out]
      have hk2 : Keep (fun _ => False) w1 (w1.alloc (.cells cs 114)).drew := ((Keep.refl _ _).alloc _).drew
      have hsl : Sl EHI (w1.alloc (.cells cs 114)).drew (some ⟨w1.heap.size, 0, none⟩) 1 [(x, (m : Int) + j)] := (Sl.one EHI w1 (x, (m : Int) + j) cs 114 (by rw [HCS.out]; rfl)).keep ((Keep.refl (fun _ => False) _).drew) (fun ⟨_, _, h⟩ => h)
      have g11 := hk2.cell h11 (fun h => h)
      have g12 := hk2.cell h12 (fun h => h)
      have g21 := hk2.cell hy1 (fun h => h)
      have g22 := hk2.cell hy2 (fun h => h)
      refine hK _ _ ⟨g11, g12, g21, g22⟩ ?_
      clear hK K'
      refine veilG_solo (fun K' hK => ?_)
      have hlen : L ≤ 1000000000 := by have := HLL.out; rw [addL_len] at this; have := HL.out.1; simp at *; omega
      refine wp_append_ow EHI _ _ 59 rfl 114 _ 24 Try.underlying59 info114 rfl A' L ca' rfl _ HLL.out (HAPD.out _ hk2) _ 1 1 rfl [(x, (m : Int) + j)] rfl hsl (by omega) (by omega) ?_
      intro A'' ca'' w2 hap
      have HAP := Lib.hid hap
      clear hap
      have nb : ¬ AtB A' b := fun ⟨a, ha, h⟩ => HBG.out.apart a ha h
      have nz : ¬ AtB A' Wz := fun ⟨a, ha, h⟩ => by have := HBG.out.old a ha; have := HWZ.out; omega
      have e11 := HAP.out.keep.cell g11 nb
      have e12 := HAP.out.keep.cell g12 nb
      refine hK _ _ ⟨e11, e12, HAP.out.keep.cell g21 nz, HAP.out.keep.cell g22 nz⟩ ?_
      have e2f : w2.frozen? ⟨b, 2, none⟩ = false := ((HAP.out.keep.there (hk2.there (there1) (fun h => h)) nb) 2 (by omega)).2
      have e1f : w2.frozen? ⟨b, 1, none⟩ = false := ((HAP.out.keep.there (hk2.there (there1) (fun h => h)) nb) 1 (by omega)).2
      clear hK K'
      refine veilG_nil ?_
      refine wpAny_forced (n := 13) (by kernel_rfl) ?_
      simp only [List.drop_succ_cons, List.drop_zero]
      have hmj : (m : Int) + (j : Int) ≤ 2000000000 := by have := HL.out.2.1; omega
      have hmj0 : (0 : Int) ≤ (m : Int) + (j : Int) := by omega
      have hL0 : (0 : Int) ≤ (L : Int) := by omega
      have hcap2 : ca'' ≤ 9223372036854775807 := HAP.out.ow.sl.cap
      have hlen2 : L + 1 ≤ ca'' := by have := HAP.out.ow.sl.le; rw [List.length_append, HLL.out] at this; simpa using this
      go_wp2
      obtain ⟨hs0, HH0⟩ : ∃ hs0, Hid (addL c hs m (xs.take j) = hs0) := ⟨_, Lib.hid rfl⟩
      obtain ⟨w3, HW3⟩ : ∃ w3, Hid (w3 = ((w2.setCell ⟨b, 1, none⟩ (.slice A'' (L + 1) ca'')).setCell ⟨b, 2, none⟩ (.int .i64 ((m : Int) + (j : Int) + 1)))) := ⟨_, Lib.hid rfl⟩
      rw [← HW3.out]
      have hkb : Keep (fun k => k = b) w2 w3 := by rw [HW3.out]; exact ((Keep.refl (fun k => k = b) _).setCell (fun _ => rfl) _).setCell (fun _ => rfl) _
      have hblt : b < wr.heap.size := World.block_lt_of_cell? _ _ HBG.out.cmp
      have nb2 : ∀ a, A'' = some a → a.block ≠ b := fun a ha e => by
        rcases HAP.out.lies a ha with ⟨a0, h0, h1⟩ | ⟨h1, _⟩
        · exact HBG.out.apart a0 h0 (h1.trans e)
        · have := hk2.size; have := (Keep.refl (fun _ => False) wr).alloc (.cells #[.int .i64 x.1, .int .i64 x.2] 27); rw [← HW1.out] at this; have := this.size; omega
      have hk01 : Keep (fun _ => False) wr w1 := by rw [HW1.out]; exact (Keep.refl _ _).alloc _
      have hkw : Keep (fun k => k = b ∨ AtB A' k) wr w3 :=
        ((hk01.mono (fun _ _ h => h.elim)).then_ (hk2.mono (fun _ _ h => h.elim))).then_ ((HAP.out.keep.mono (fun _ _ h => .inr h)).then_ (hkb.mono (fun _ _ h => .inl h)))
      have hBA : ∀ a, A' = some a → B ≤ a.block := fun a ha => by
        rcases HAF.out a ha with ⟨a0, h0, h1⟩ | h1
        · rw [← h1]; exact HS.out.2 a0 h0
        · omega
      have HB3 : Hid (Bg w3 b (.func (.func k) first cap) A'' ca'' (hs0 ++ [(x, (m : Int) + j)]) (m + j + 1)) := by
        have hz : (hs0 ++ [(x, (m : Int) + (j : Int))]).length = L + 1 := by rw [List.length_append, ← HH0.out, HLL.out]; rfl
        have e10 := HAP.out.keep.cell (hk2.cell (hk01.cell HBG.out.cmp (fun h => h)) (fun h => h)) nb
        have eth := HAP.out.keep.there (hk2.there (hk01.there HBG.out.th (fun h => h)) (fun h => h)) nb
        refine ⟨?_, ?_, ?_, ?_, ?_, nb2, fun a ha => ?_⟩
        · rw [HW3.out, World.cell?_setCell_other _ _ _ _ (by simp), World.cell?_setCell_other _ _ _ _ (by simp)]
          exact e10
        · rw [HW3.out, World.cell?_setCell_other _ _ _ _ (by simp), World.cell?_setCell_same _ _ _ e11, hz]
        · rw [HW3.out, World.cell?_setCell_same _ _ _ (by rw [World.cell?_setCell_other _ _ _ _ (by simp)]; exact e12)]
          simp
        · rw [HW3.out]; exact there_setCell (there_setCell eth _ _) _ _
        · rw [← HH0.out]; exact HAP.out.ow.keep hkb (fun ⟨a, ha, h⟩ => nb2 a ha h)
        · have h3 := hkb.size
          rcases HAP.out.lies a ha with ⟨a0, h0, h1⟩ | ⟨h1, h2⟩
          · have h4 := HBG.out.old a0 h0
            have h5 := (hk01.then_ hk2).size
            have h6 := HAP.out.keep.size
            omega
          · omega
      have HK3 : Hid (Keep (MayB S b A) w w3) := HKP.out.trans hkw (fun kk hk h => by
        rcases h with h | ⟨a, ha, h⟩
        · exact .inr (.inl h)
        · rcases HAF.out a ha with h1 | h1
          · exact .inr (.inr (h ▸ h1))
          · omega)
      have HI3 : Hid (I (n + q) w3) := HC.out.stable _ _ _ HIQ.out (hkw.below (Nat.le_trans hB HKP.out.size) (fun kk hk h => by
        rcases h with h | ⟨a, ha, h⟩
        · have := HS.out.1; omega
        · have := hBA a ha; omega))
      have HAF3 : Hid (∀ a, A'' = some a → AtB A a.block ∨ w.heap.size ≤ a.block) := fun a ha => by
        rcases HAP.out.lies a ha with ⟨a0, h0, h1⟩ | ⟨h1, _⟩
        · rw [← h1]; exact HAF.out a0 h0
        · right; rw [h1]; exact Nat.le_trans HKP.out.size ((hk01.then_ hk2).size)
      have HLH : Hid (hs0.length = L) := by rw [← HH0.out]; exact HLL
      clear e11 e12 e1f e2f g11 g12 g21 g22 hsl hk2 hk01 hkw hkb there1 h11 h12 hy1 hy2
      have HEND : Hid (addL c hs m (xs.take (j + 1)) = addOne c hs0 ((m : Int) + j) x) := by
        unfold Hid
        rw [List.take_succ_eq_append_getElem hlt, addL_snoc, HXE.out, HH0.out, List.length_take, Nat.min_eq_left hj]
      have hmul : (j + 1) * D = j * D + D := Nat.succ_mul j D
      have HMUL := Lib.hid hmul
      clear hmul
      obtain ⟨wo, rfl⟩ : ∃ wo : World, wo = wr := ⟨_, rfl⟩
      go_loopw [6] (fun u6 wv => ∃ (i a : Nat) (hs1 : List (Held Item)), i ≤ L ∧ u6 = .int .i64 (i : Int) ∧ Hid (Bg wv b (.func (.func k) first cap) A'' ca'' hs1 (m + j + 1)) ∧ Hid (hs1.length = L + 1) ∧
          Hid (upL c i hs1 i = addOne c hs0 ((m : Int) + j) x) ∧ Hid (I (n + q + a) wv) ∧ Hid (a ≤ D ∧ i + 1 ≤ 2 ^ (D - a)) ∧ Hid (Keep (MayB S b A) w wv)) (fun u6 _ => (intOf u6).toNat)
      case atStart =>
        refine ⟨L, 0, hs0 ++ [(x, (m : Int) + j)], Nat.le_refl _, rfl, HB3, ?_, ?_, HI3, ⟨Nat.zero_le _, ?_⟩, HK3⟩
        · unfold Hid; simp [HLH.out]
        · unfold Hid addOne; rw [HLH.out]
        · have h1 := HLL.out
          rw [addL_len, List.length_take, Nat.min_eq_left hj] at h1
          have h2 := HL.out.2.2
          rw [Nat.sub_zero]
          omega
      case round =>
        obtain ⟨i, a, hs1, hi, rfl, HB4, HL4, HU4, HI4, HD4, HK4⟩ := hrel
        by_cases hi0 : i = 0
        · subst hi0
          go_wp2
          go_roundw
          case rel =>
            refine ⟨j + 1, q + a, _, ca'', by omega, by go_num, ?_, HAF3, HK4, ?_, ?_⟩
            · rw [HEND.out, ← HU4.out, upL_zero]
              exact HB4
            · have h1 := HQ.out
              have h2 := HMUL.out
              have h3 := HD4.out.1
              unfold Hid
              omega
            · unfold Hid
              rw [← Nat.add_assoc]
              exact HI4.out
          case measure => simp [intOf]; omega
        · have hi1 : (1 : Int) ≤ (i : Int) := by omega
          have hi2 : 0 < i := by omega
          obtain ⟨u, hu⟩ : ∃ u, u = (i - 1) / 2 := ⟨_, rfl⟩
          have hquo : Int.tdiv ((i : Int) - 1) 2 = (u : Int) := by rw [Int.tdiv_eq_ediv_of_nonneg (by omega)]; omega
          have g1 : i < hs1.length := by rw [HL4.out]; omega
          have g2 : u < hs1.length := by rw [HL4.out]; omega
          obtain ⟨ba, oa, rfl, hpx⟩ := HB4.out.ow.sl.elem g1
          obtain ⟨ba', oa', e', hpy⟩ := HB4.out.ow.sl.elem g2
          simp only [Option.some.injEq, Addr.mk.injEq, and_true] at e'
          obtain ⟨rfl, rfl⟩ := e'
          obtain ⟨ex, HEX⟩ : ∃ ex, Hid (hs1[i] = ex) := ⟨_, Lib.hid rfl⟩
          obtain ⟨ey, HEY⟩ : ∃ ey, Hid (hs1[u] = ey) := ⟨_, Lib.hid rfl⟩
          rw [HEX.out] at hpx
          rw [HEY.out] at hpy
          have HEX' : Hid (hs1[i]? = some ex) := by unfold Hid; rw [List.getElem?_eq_getElem g1, HEX.out]
          have HEY' : Hid (hs1[(i - 1) / 2]? = some ey) := by unfold Hid; rw [← hu, List.getElem?_eq_getElem g2, HEY.out]
          obtain ⟨⟨exk, exn⟩, exo⟩ := ex
          obtain ⟨⟨eyk, eyn⟩, eyo⟩ := ey
          have hx0 := hpx 0 _ rfl
          have hx1 := hpx 1 _ rfl
          have hx2 := hpx 2 _ rfl
          have hy0 := hpy 0 _ rfl
          have hy1 := hpy 1 _ rfl
          have hy2 := hpy 2 _ rfl
          simp only [EHI, Nat.add_zero] at hx0 hx1 hx2 hy0 hy1 hy2
          have HU := Lib.hid hu
          have hs1h := HB4.out.heap
          rw [HL4.out] at hs1h
          have hiL : (i : Int) < (L : Int) + 1 := by omega
          have huL : (u : Int) < (L : Int) + 1 := by omega
          have hu0 : (0 : Int) ≤ (u : Int) := by omega
          have hi00 : (0 : Int) ≤ (i : Int) := by omega
          have hcapz : L + 1 ≤ ca'' := hlen2
          have HCALL := Lib.hid (ahead_ok HC.out b (n + q + a) ((exk, exn), exo) ((eyk, eyn), eyo) wr.drew (Nat.le_trans hB HK4.out.size) HB4.out.cmp (HC.out.stable _ _ wr.drew HI4.out (Below.drew (Below.refl _ _))))
          clear hu hpx hpy HEX HEY g1 g2
          go_wp2_with (fail)
          refine wp_region_mid 15 _ rfl rfl (by kernel_rfl) (by kernel_rfl) ?_
          simp only [List.take_succ_cons, List.take_zero]
          repeat still_step
          refine wpStill_nil ?_
          intro K hK
          go_simp
          trace_state
          refine HCALL.out.mono ?_
          rintro e w5 ⟨rfl, hI5, hk5⟩
          refine hK _ _ ?_
          clear hK K
          simp only [List.drop_succ_cons, List.drop_zero]
          have hnS : ∀ kk, S kk → kk < B := HC.out.old
          have HB5 : Hid (Bg w5 b (.func (.func k) first cap) (some ⟨ba, oa, none⟩) ca'' hs1 (m + j + 1)) := by
            refine HB4.out.keep hk5.of_drew (fun h => ?_) (fun ⟨a, ha, h⟩ => ?_)
            · have := hnS _ h; have := HS.out.1; omega
            · have := hnS _ h
              rcases HAF3.out a ha with ⟨a0, h0, h1⟩ | h1
              · have := HS.out.2 a0 h0; omega
              · omega
          have HK5 : Hid (Keep (MayB S b A) w w5) := HK4.out.then_ (hk5.of_drew.mono (fun _ _ h => .inl h))
          cases hab : aheadB c ((exk, exn), exo) ((eyk, eyn), eyo)
          · refine Veil.out ?_
            repeat (refine veil_step (fun K hK => ?_); go_simp; refine hK _ ?_; clear hK K)
            refine ⟨wpStill_nil ?_⟩
            go_wp2
            go_roundw
            case rel =>
              refine ⟨j + 1, q + (a + 1), _, ca'', by omega, by go_num, ?_, HAF3, HK5, ?_, ?_⟩
              · rw [HEND.out, ← HU4.out, upL_stay hi2 HEX'.out HEY'.out hab]
                exact HB5
              · have h1 := HQ.out
                have h2 := HMUL.out
                have h3 := HD4.out.1
                have h4 : D - a ≠ 0 := fun h => by
                  have h5 := HD4.out.2
                  rw [h] at h5
                  simp at h5
                  omega
                unfold Hid
                omega
              · unfold Hid
                rw [← Nat.add_assoc]
                exact hI5
            case measure => simp [intOf]; omega
          · refine Veil.out ?_
            repeat (refine veil_step (fun K hK => ?_); go_simp; refine hK _ ?_; clear hK K)
            refine ⟨wpStill_nil ?_⟩
            have k5h := HB5.out.heap
            rw [HL4.out] at k5h
            have hSa : ¬ S ba := fun h => by
              have h2 : ba < B := hnS _ h
              rcases HAF3.out _ rfl with ⟨a0, h0, h1⟩ | h1
              · have h3 := HS.out.2 a0 h0
                have h4 : a0.block = ba := h1
                omega
              · have h3 : w.heap.size ≤ ba := h1
                omega
            have kx0 := hk5.of_drew.cell hx0 hSa
            have kx1 := hk5.of_drew.cell hx1 hSa
            have kx2 := hk5.of_drew.cell hx2 hSa
            have ky0 := hk5.of_drew.cell hy0 hSa
            have ky1 := hk5.of_drew.cell hy1 hSa
            have ky2 := hk5.of_drew.cell hy2 hSa
            clear hx0 hx1 hx2 hy0 hy1 hy2 hk5 hs1h
            go_wp2_with (fail)
            refine wp_region_grow1 9 _ rfl (.int .i64 (u : Int)) [(true, 0), (true, 1), (true, 2), (true, 3), (true, 4), (true, 5), (true, 6), (true, 7), (true, 8), (true, 10), (true, 11), (true, 12), (true, 13), (true, 14), (true, 15), (true, 16), (true, 17), (true, 18), (true, 19), (true, 20), (true, 21), (true, 22), (true, 23)] 24 #[true, true, true, true, true, true, true, true, true, true, true, true, true, true, true, true, true, true, true, true, true, true, true, true, false, false, false, false]
              (fun w' => w' = w5.drew) (by kernel_rfl) (by kernel_rfl) (by kernel_rfl) (by rfl) (fun _ _ _ _ _ h => h) (by rfl) (fun w' => by go_simp) rfl ?_
            simp only [List.take_succ_cons, List.take_zero, List.drop_succ_cons, List.drop_zero, Nat.reduceAdd, Nat.reduceSub, List.cons_append, List.nil_append, List.map_cons, List.map_nil, Act.put, List.setIfInBounds_toArray]
            repeat
              (refine veilG_take ?_ (by rfl) ?_ ?_
               rotate_left
               · intro w' hS; subst hS; go_simp; try (with_reducible rfl)
               simp only [Act.put])
            refine veilG_nil ?_
            refine wpAny_forced (n := 24) (by kernel_rfl) ?_
            simp only [List.drop_succ_cons, List.drop_zero]
            obtain ⟨ba', oa', e', hth⟩ := HB5.out.ow.room (by omega)
            simp only [Option.some.injEq, Addr.mk.injEq, and_true] at e'
            obtain ⟨rfl, rfl⟩ := e'
            have ht1 : w5.drew.there ba (oa + i * 3) 3 := there_sub (Keep.there ((Keep.refl (fun _ => False) _).drew) hth (fun h => h)) (by omega) (by simp only [EHI]; omega)
            have ht2 : (w5.drew.setCells ba (oa + i * 3) [.int .i64 eyk, .int .i64 eyn, .int .i64 eyo]).there ba (oa + u * 3) 3 :=
              World.there_setCells (there_sub (Keep.there ((Keep.refl (fun _ => False) _).drew) hth (fun h => h)) (by omega) (by simp only [EHI]; omega)) _ _ _
            (refine wpList_step (fun K hK => ?_); go_simp; refine hK _ _ ?_; clear hK K)
            refine wpList_store_mid rfl 114 _ _ rfl ba (oa + i * 3) #[.int .i64 eyk, .int .i64 eyn, .int .i64 eyo] rfl rfl ht1 (by kernel_rfl) (all_oneCell_toArray (EHI.one ((eyk, eyn), eyo))) ?_
            simp only [Act.put]
            (refine wpList_step (fun K hK => ?_); go_simp; refine hK _ _ ?_; clear hK K)
            refine wpList_store_mid rfl 114 _ _ rfl ba (oa + u * 3) #[.int .i64 exk, .int .i64 exn, .int .i64 exo] rfl rfl ht2 (by kernel_rfl) (all_oneCell_toArray (EHI.one ((exk, exn), exo))) ?_
            simp only [Act.put]
            have HB6 := Lib.hid (Bg.put (i := u) (Bg.put (i := i) (HB5.out.keep (Keep.drew (Keep.refl (fun _ => False) _)) (fun h => h) (fun ⟨_, _, h⟩ => h)) (by rw [HL4.out]; omega) ((eyk, eyn), eyo)) (by rw [List.length_set, HL4.out]; omega) ((exk, exn), exo))
            have HK6 : Hid (Keep (fun kk => kk = ba) w5 ((w5.drew.setCells ba (oa + i * 3) [.int .i64 eyk, .int .i64 eyn, .int .i64 eyo]).setCells ba (oa + u * 3) [.int .i64 exk, .int .i64 exn, .int .i64 exo])) :=
              Keep.setCells _ _ (Keep.setCells _ _ ((Keep.refl _ w5).drew) (fun _ => rfl)) (fun _ => rfl)
            obtain ⟨w6, HW6⟩ : ∃ w6, Hid (w6 = ((w5.drew.setCells ba (oa + i * 3) [.int .i64 eyk, .int .i64 eyn, .int .i64 eyo]).setCells ba (oa + u * 3) [.int .i64 exk, .int .i64 exn, .int .i64 exo])) := ⟨_, Lib.hid rfl⟩
            rw [← HW6.out] at HK6
            have HB7 : Hid (Bg w6 b (.func (.func k) first cap) (some ⟨ba, oa, none⟩) ca'' ((hs1.set i ((eyk, eyn), eyo)).set u ((exk, exn), exo)) (m + j + 1)) := by rw [HW6.out]; exact HB6
            clear HB6 ht1 ht2 hth k5h kx0 kx1 kx2 ky0 ky1 ky2
            refine wpList_nil ?_
            rw [show ((w5.drew.setCells ba (oa + i * 3) (#[Value.int .i64 eyk, .int .i64 eyn, .int .i64 eyo] : Array Value).toList).setCells ba (oa + u * 3) (#[Value.int .i64 exk, .int .i64 exn, .int .i64 exo] : Array Value).toList) = w6 from HW6.out.symm]
            go_wp2
            go_roundw
            case rel =>
              have hBba : B ≤ ba := by
                rcases HAF3.out _ rfl with ⟨a0, h0, h1⟩ | h1
                · have h3 := HS.out.2 a0 h0
                  have h4 : a0.block = ba := h1
                  omega
                · have h3 : w.heap.size ≤ ba := h1
                  omega
              have h4 : D - a ≠ 0 := fun h => by
                have h5 := HD4.out.2
                rw [h] at h5
                simp at h5
                omega
              refine ⟨u, a + 1, _, by have := HU.out; omega, rfl, HB7, ?_, ?_, ?_, ?_, ?_⟩
              · unfold Hid; simp [HL4.out]
              · unfold Hid
                rw [← HU4.out, upL_go hi2 HEX'.out HEY'.out hab, ← HU.out]
              · exact HC.out.stable _ _ _ hI5 (HK6.out.below (Nat.le_trans hB HK5.out.size) (fun kk hk e => by omega))
              · refine ⟨by omega, ?_⟩
                have h5 := HD4.out.2
                rw [show D - a = (D - (a + 1)) + 1 by omega, Nat.pow_succ] at h5
                have h6 := HU.out
                omega
              · refine HK5.out.trans HK6.out (fun kk hk e => ?_)
                rcases HAF3.out _ rfl with ⟨a0, h0, h1⟩ | h1
                · exact .inr (.inr ⟨a0, h0, h1.trans e.symm⟩)
                · have h3 : w.heap.size ≤ ba := h1
                  omega
            case measure => simp [intOf]; have := HU.out; omega
    · have hge : xs.length ≤ j := by omega
      have hje : j = xs.length := by omega
      have HJE := Lib.hid hje
      clear hje
      go_wp2
      refine bodyPost_end (results_none rfl _ _ _) rfl ?_
      have hB' := HBG.out
      have hQ' := HQ.out
      rw [HJE.out, List.take_length] at hB'
      rw [HJE.out] at hQ'
      exact ⟨rfl, A', ca', hB', HAF.out, HKP.out, q, hQ', HIQ.out⟩
end Go.Proofs.Ytnofckgnnpmiiaa
