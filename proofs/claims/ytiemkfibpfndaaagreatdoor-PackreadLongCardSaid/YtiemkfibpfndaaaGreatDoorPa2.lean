/- Natural numbers: lists of limbs without noughts at their end. -/
import Derived.Deep.CutBlock
import Derived.Laws.Bits
import Derived.Test.YtiemkfibpfndaaaGreatDoorPa1
namespace Go.Proofs.YtiemkfibpfndaaaGreatDoor
open Go.RowKit

/-- how many limbs are left of the first n, noughts at their end dropped -/
def cutN (l : List Nat) : Nat → Nat
  | 0 => 0
  | n + 1 => if l.getD n 0 = 0 then cutN l n else n + 1
def cutL (l : List Nat) : List Nat := l.take (cutN l l.length)
theorem cutN_le (l : List Nat) : ∀ n, cutN l n ≤ n
  | 0 => Nat.le_refl _
  | n + 1 => by
    unfold cutN
    split
    · exact Nat.le_trans (cutN_le l n) (Nat.le_succ n)
    · exact Nat.le_refl _
theorem cutL_len (l : List Nat) : (cutL l).length = cutN l l.length := by
  unfold cutL
  rw [List.length_take]
  exact Nat.min_eq_left (cutN_le l _)
theorem infoU32 : (Tryz.prog.info? 130).map (fun i => (i.zero, i.size, i.bytes)) = some (some (.int .u32 0), 1, 4) := by kernel_rfl
theorem sizeU32 : (Tryz.prog.info? 130).map (·.size) = some 1 := by kernel_rfl
/-- a slice with both ends said -/
theorem run_slice_hm {P : Program} (w : World) (t e : TypeId) (sz : Nat) (ht : P.underlying t = some (.slice e)) (hsz : (P.info? e).map (·.size) = some sz) (A : Option Addr) (n c hi : Nat) (H M : Int) (hH : H = (hi : Int)) (hM : M = (hi : Int)) (h2 : hi ≤ c) :
    (Instr.slice t (.slice A n c) none (some (.int .i64 H)) (some (.int .i64 M))).run P w = .ok (.slice A hi hi) w := by
  subst hH
  subst hM
  obtain ⟨i, hi', his⟩ := Option.map_eq_some_iff.1 hsz
  simp [Instr.slice, run_underlying ht, Instr.sliceBounds, Instr.sliceBound, sizeOf, typeInfo, hi', asIntOf, h2]
  cases A <;> simp [Addr.add]

set_option maxRecDepth 100000 in
theorem cut_ok (A : Option Addr) (c L : Nat) (l : List Nat) (w : World) (hL : l.length = L) (h : Sl EU w A c l) :
    Calls Tryz.prog 148 #[.slice A L c] w fun e w' => e = .returned (.slice A (cutN l L) (cutN l L)) ∧ w' = w := by
  have H := Lib.hid h
  have HL := Lib.hid hL
  have hlc := h.le
  rw [hL] at hlc
  have hcc := h.cap
  clear h hL
  go_enter Tryz.func148, Tryz.ntmps148
  go_wp2_with (fail)
  go_loopw [3] (fun u3 wr => ∃ i : Nat, i ≤ L ∧ u3 = .int .i64 (i : Int) ∧ Hid (cutN l L = cutN l i) ∧ Hid (wr = w)) (fun u3 _ => (intOf u3).toNat)
  case atStart => exact ⟨L, Nat.le_refl _, rfl, Lib.hid rfl, Lib.hid rfl⟩
  case round =>
    obtain ⟨i, h1, rfl, HC, HW⟩ := hrel
    have HW2 := HW.out
    subst HW2
    rcases Nat.eq_zero_or_pos i with h0 | h0
    · subst h0
      go_wp2
      go_ret
      rw [HC.out]
      exact ⟨rfl, rfl⟩
    · obtain ⟨q, rfl⟩ : ∃ q, i = q + 1 := ⟨i - 1, by omega⟩
      obtain ⟨b1, o1, rfl, hx⟩ := (H.out).elem (i := q) (by rw [HL.out]; exact h1)
      have hx1 := hx 0 _ rfl
      simp only [EU, Nat.add_zero, Nat.mul_one] at hx1
      obtain ⟨x, HX⟩ : ∃ x, Hid (l[q]'(by rw [HL.out]; exact h1) = x) := ⟨_, Lib.hid rfl⟩
      rw [HX.out] at hx1
      have hp0 : (0 : Int) < ((q + 1 : Nat) : Int) := by omega
      have hw : IntKind.i64.wrap (((q + 1 : Nat) : Int) - 1) = (q : Int) := by rw [IntWalk.i64_left, IntWalk.wrap64_in _ ⟨by omega, by omega⟩]; omega
      have hq0 : (0 : Int) ≤ (q : Int) := by omega
      have hq1 : (q : Int) < (L : Int) := by omega
      have hget : Hid (l.getD q 0 = x) := by unfold Hid; rw [← HX.out, List.getD_eq_getElem?_getD, List.getElem?_eq_getElem (by rw [HL.out]; exact h1)]; rfl
      by_cases hz : x = 0
      · subst hz
        go_wp2
        refine ⟨⟨q, by omega, rfl, ?_, Lib.hid trivial⟩, by simp [intOf]⟩
        unfold Hid
        rw [HC.out, cutN, if_pos hget.out]
      · have hzi : ¬ (x : Int) = 0 := by omega
        go_wp2
        go_ret
        rw [HC.out, cutN, if_neg (by rw [hget.out]; exact hz)]
        exact ⟨rfl, rfl⟩
theorem cut_sl {A : Option Addr} {c : Nat} {l : List Nat} {w : World} (h : Sl EU w A c l) : Sl EU w A (cutN l l.length) (cutL l) := by
  have h1 := h.take (cutN l l.length)
  exact ⟨by rw [cutL_len]; exact Nat.le_refl _, Nat.le_trans (cutN_le l _) (Nat.le_trans h.le h.cap), h1.at_⟩

set_option maxRecDepth 100000 in
/-- Norm: a list of one's own without noughts at its end. -/
theorem nNorm_ok (A : Option Addr) (c L : Nat) (l : List Nat) (w : World) (hL : l.length = L) (h : Sl EU w A c l) (hl : L ≤ 1000000000) :
    Calls Tryz.prog 134 #[.slice A L c] w fun e w' => Keep nob w w' ∧ ∃ A' , e = .returned (.slice A' (cutN l L) (cutN l L)) ∧ Sl EU w' A' (cutN l L) (cutL l) ∧ Lies (fun k => w.heap.size ≤ k) A' (cutL l) := by
  have H := Lib.hid h
  have HL := Lib.hid hL
  have hlc := h.le
  rw [hL] at hlc
  have hcc := h.cap
  have hC := cut_ok A c L l w hL h
  have hn := cutN_le l L
  obtain ⟨n, HN⟩ : ∃ n, Hid (cutN l L = n) := ⟨_, Lib.hid rfl⟩
  rw [HN.out] at hC hn
  clear h hL
  go_enter Tryz.func134, Tryz.ntmps134
  go_upto_region 3 with (first
    | (go_at_call 148; go_must (refine hC.mono ?_); rintro e w1 ⟨rfl, rfl⟩)
    | (at_make; refine wpList_make_E EU rfl _ _ 50 rfl 130 _ 4 Tryz.underlying50 infoU32 n n _ _ rfl rfl rfl rfl (Nat.le_refl _) (by omega) (by omega) ?_; intro w2 HW2))
  have HO2 : Hid (Ow EU w2 (some ⟨w1.heap.size, 0, none⟩) n (List.replicate n (0 : Nat))) := by rw [HW2.out]; exact ow_made EU w1 130 (.int .u32 0) 0 rfl n n (Nat.le_refl _) (by omega)
  have HK2 : Hid (Keep nob w1 w2) := by rw [HW2.out]; exact (Keep.refl _ w1).alloc _
  clear HW2
  obtain ⟨bo, HBO⟩ : ∃ bo, Hid (w1.heap.size = bo) := ⟨_, Lib.hid rfl⟩
  rw [HBO.out] at HO2 ⊢
  have HC2 : Hid (Sl EU w2 A n (cutL l)) := by
    have h1 := cut_sl (H.out.keep HK2.out (fun ⟨_, _, h⟩ => h))
    rw [HL.out, HN.out] at h1
    exact h1
  have HCL : Hid ((cutL l).length = n) := by unfold Hid; rw [cutL_len, HL.out, HN.out]
  go_upto_region 4 with (refine wpList_copy_E EU rfl _ _ 50 50 rfl 130 Tryz.underlying50 sizeU32 (some ⟨bo, 0, none⟩) n n rfl A n n rfl (cutL l) HCL.out HC2.out n (by simp) (fun _ => HO2.out.room (by omega)) ?_; intro w3 h30 h31)
  obtain ⟨ho3, hk3⟩ := copied HO2.out HCL.out (List.length_replicate) h30.out h31.out
  go_wp2
  go_ret
  refine ⟨HK2.out.trans hk3 (fun k h1 h2 => ?_), some ⟨bo, 0, none⟩, by rw [HN.out]; rfl, by rw [HN.out]; exact ho3.sl, fun _ => ⟨_, rfl, ?_⟩⟩
  · obtain ⟨a, ha, hb⟩ := h2
    cases ha
    have := HBO.out
    simp only at hb
    omega
  · have := HBO.out
    simp only
    omega

/-! ### whole numbers -/
/-- a whole number's two cells -/
def intV (neg : Bool) (A : Option Addr) (n c : Nat) : Value := .agg #[.bool neg, .slice A n c]
theorem load_int {w : World} {b : Nat} {neg : Bool} {A : Option Addr} {n c : Nat} (h0 : w.cell? ⟨b, 0, none⟩ = some (.bool neg)) (h1 : w.cell? ⟨b, 1, none⟩ = some (.slice A n c)) : (loadVar 52 ⟨b, 0, none⟩).run Tryz.prog w = .ok (intV neg A n c) w := by
  go_simp
  rfl
theorem ret_int {fn : Func} {p : Tmp} {R : Ending → World → Prop} {a : Act} {w : World} {b : Nat} {neg : Bool} {A : Option Addr} {n c : Nat} (h : fn.results = #[.cell p 52]) (hp : a.tmps.getD p undef = .pointer (some ⟨b, 0, none⟩)) (hd : a.defers = [])
    (h0 : w.cell? ⟨b, 0, none⟩ = some (.bool neg)) (h1 : w.cell? ⟨b, 1, none⟩ = some (.slice A n c)) (hR : R (.returned (intV neg A n c)) w) : bodyPost Tryz.prog fn R .ret a w := by
  refine bodyPost_ret (v := intV neg A n c) ?_ hd hR
  have hl := load_int h0 h1
  have hp' : a.tmps[p]?.getD undef = .pointer (some ⟨b, 0, none⟩) := by rw [← hp]; simp
  simp [results, h, hp', asAddr, hl]
theorem int_new0 (w : World) (neg : Bool) (A : Option Addr) (n c : Nat) (T : TypeId) : (w.alloc (.cells #[.bool neg, .slice A n c] T)).cell? ⟨w.heap.size, 0, none⟩ = some (.bool neg) := by simp
theorem int_new1 (w : World) (neg : Bool) (A : Option Addr) (n c : Nat) (T : TypeId) : (w.alloc (.cells #[.bool neg, .slice A n c] T)).cell? ⟨w.heap.size, 1, none⟩ = some (.slice A n c) := by simp
/-- made: a sign (-1, 0, 1) and a size -/
theorem made_ok (sg : Int) (A : Option Addr) (n c : Nat) (w : World) : Calls Tryz.prog 115 #[.int .i8 sg, .slice A n c] w fun e w' =>
    e = .returned (intV (decide (sg = -1) && decide (0 < n)) A n c) ∧ Keep nob w w' := by
  by_cases h : sg = -1
  · subst h
    by_cases hn : 0 < n
    · have hn2 : (0 : Int) < (n : Int) := by omega
      go_enter Tryz.func115, Tryz.ntmps115
      go_wp2
      refine ret_int rfl rfl rfl (int_new0 _ _ _ _ _ _) (int_new1 _ _ _ _ _ _) ⟨?_, (Keep.refl _ _).alloc _⟩
      simp [hn]
    · have hn2 : ¬ (0 : Int) < (n : Int) := by omega
      go_enter Tryz.func115, Tryz.ntmps115
      go_wp2
      refine ret_int rfl rfl rfl (int_new0 _ _ _ _ _ _) (int_new1 _ _ _ _ _ _) ⟨?_, (Keep.refl _ _).alloc _⟩
      simp
  · go_enter Tryz.func115, Tryz.ntmps115
    go_wp2
    refine ret_int rfl rfl rfl (int_new0 _ _ _ _ _ _) (int_new1 _ _ _ _ _ _) ⟨?_, (Keep.refl _ _).alloc _⟩
    simp [h]

/-- the sign of a number in normal form, by its sign's cell and how many limbs it has -/
def sgn (neg : Bool) (n : Nat) : Int := if n = 0 then 0 else if neg then -1 else 1
set_option maxRecDepth 100000 in
theorem wsigned_ok (neg : Bool) (A : Option Addr) (c L : Nat) (l : List Nat) (w : World) (hL : l.length = L) (h : Sl EU w A c l) (hl : L ≤ 1000000000) :
    Calls Tryz.prog 116 #[intV neg A L c] w fun e w' => Keep nob w w' ∧ ∃ A', e = .returned (.tuple #[.int .i8 (sgn neg (cutN l L)), .slice A' (cutN l L) (cutN l L)]) ∧ Sl EU w' A' (cutN l L) (cutL l) ∧ Lies (fun k => w.heap.size ≤ k) A' (cutL l) := by
  have k0 : Keep nob w (w.alloc (.cells #[.bool neg, .slice A L c] 52)) := (Keep.refl _ _).alloc _
  have hN := nNorm_ok A c L l _ hL (h.keep k0 (fun ⟨_, _, h⟩ => h)) hl
  obtain ⟨n, HN⟩ : ∃ n, Hid (cutN l L = n) := ⟨_, Lib.hid rfl⟩
  rw [HN.out] at hN
  have hlen : Hid ((cutL l).length = n) := by unfold Hid; rw [cutL_len, hL, HN.out]
  have c0 : (w.alloc (.cells #[.bool neg, .slice A L c] 52)).cell? ⟨w.heap.size, 0, none⟩ = some (.bool neg) := by simp
  have c1 : (w.alloc (.cells #[.bool neg, .slice A L c] 52)).cell? ⟨w.heap.size, 1, none⟩ = some (.slice A L c) := by simp
  obtain ⟨w0, HW0⟩ : ∃ w0, Hid (w.alloc (.cells #[.bool neg, .slice A L c] 52) = w0) := ⟨_, Lib.hid rfl⟩
  obtain ⟨b0, HB0⟩ : ∃ b0, Hid (w.heap.size = b0) := ⟨_, Lib.hid rfl⟩
  have HS : Hid (w.heap.size ≤ w0.heap.size) := by unfold Hid; rw [← HW0.out]; exact k0.size
  rw [HW0.out] at hN c0 c1 k0
  rw [HB0.out] at c0 c1
  have HK0 := Lib.hid k0
  clear k0 h hL
  unfold intV
  go_enter Tryz.func116, Tryz.ntmps116
  go_upto_region 1 with (fail)
  rw [HW0.out, HB0.out]
  go_upto_block 0 with (go_at_call 134; go_must (refine hN.mono ?_); rintro e w1 ⟨hk1, A', rfl, hs1, hl1⟩)
  have k1 := hk1
  have d0 := k1.cell c0 (fun h => h)
  have post : ∀ v, v = sgn neg n → Keep nob w w1 ∧ ∃ A'', Ending.returned (Value.tuple #[.int .i8 v, .slice A' n n]) = .returned (.tuple #[.int .i8 (sgn neg n), .slice A'' n n]) ∧ Sl EU w1 A'' n (cutL l) ∧ Lies (fun k => w.heap.size ≤ k) A'' (cutL l) := fun v hv =>
    ⟨HK0.out.then_ k1, A', by rw [hv], hs1, hl1.mono hs1 (fun k _ hk => Nat.le_trans HS.out hk)⟩
  rcases Nat.eq_zero_or_pos n with hn | hn
  · subst hn
    have e : cutL l = [] := List.eq_nil_of_length_eq_zero hlen.out
    go_wp2
    go_ret2
    rw [HN.out, e]
    exact ⟨HK0.out.then_ k1, none, by simp [sgn], Sl.nil_ EU w1 none (Nat.zero_le _), fun h => absurd rfl h⟩
  · have hne : ¬ (n : Int) = 0 := by omega
    have hne' : ¬ n = 0 := by omega
    cases neg
    · go_wp2
      go_ret2
      rw [HN.out]
      exact post 1 (by simp [sgn, hne'])
    · go_wp2
      go_ret2
      rw [HN.out]
      exact post (-1) (by simp [sgn, hne'])
end Go.Proofs.YtiemkfibpfndaaaGreatDoor

/- Whole numbers: Norm, From; as values. -/
namespace Go.Proofs.YtiemkfibpfndaaaGreatDoor
open Go.RowKit

/-- two cells that may be written -/
theorem two {W : World} {b : Nat} (h : W.there b 0 2) : ∃ v0 v1, (W.cell? ⟨b, 0, none⟩ = some v0 ∧ W.cell? ⟨b, 1, none⟩ = some v1) ∧ W.frozen? ⟨b, 0, none⟩ = false ∧ W.frozen? ⟨b, 1, none⟩ = false := by
  have h0 := h 0 (by decide)
  have h1 := h 1 (by decide)
  rw [Nat.zero_add] at h0 h1
  obtain ⟨v0, c0⟩ := Option.isSome_iff_exists.1 h0.1
  obtain ⟨v1, c1⟩ := Option.isSome_iff_exists.1 h1.1
  exact ⟨v0, v1, ⟨c0, c1⟩, h0.2, h1.2⟩
theorem put2 {w1 : World} {b4 : Nat} (th : w1.there b4 0 2) (a0 a1 : Value) :
    ∃ w2, Hid ((w1.setCell ⟨b4, 0, none⟩ a0).setCell ⟨b4, 1, none⟩ a1 = w2) ∧ w2.cell? ⟨b4, 0, none⟩ = some a0 ∧ w2.cell? ⟨b4, 1, none⟩ = some a1 ∧ Keep (· = b4) w1 w2 := by
  refine ⟨_, Lib.hid rfl, ?_, ?_, ?_⟩
  · have := World.rangeAt_setCells_same w1 b4 0 [a0, a1] th 0 a0 rfl
    exact this
  · have := World.rangeAt_setCells_same w1 b4 0 [a0, a1] th 1 a1 rfl
    exact this
  · exact (Keep.refl (· = b4) w1).setCells (b := b4) [a0, a1] 0 (fun _ => rfl)
theorem _root_.Go.World.there.keep' {W W' : World} {b o n : Nat} (h : W.there b o n) (k : Keep nob W W') : W'.there b o n := k.there h (fun h => h)
/-- is the number, in normal form, below 0? -/
def negN (neg : Bool) (n : Nat) : Bool := neg && decide (0 < n)
theorem sgn_neg (neg : Bool) (n : Nat) : (decide (sgn neg n = -1) && decide (0 < n)) = negN neg n := by
  unfold sgn negN
  rcases Nat.eq_zero_or_pos n with h | h
  · subst h; simp
  · have : ¬ n = 0 := by omega
    cases neg <;> simp [this]
set_option maxRecDepth 100000 in
theorem wNorm_ok (neg : Bool) (A : Option Addr) (c L : Nat) (l : List Nat) (w : World) (hL : l.length = L) (h : Sl EU w A c l) (hl : L ≤ 1000000000) :
    Calls Tryz.prog 90 #[intV neg A L c] w fun e w' => Keep nob w w' ∧ ∃ A', e = .returned (intV (negN neg (cutN l L)) A' (cutN l L) (cutN l L)) ∧ Sl EU w' A' (cutN l L) (cutL l) ∧ Lies (fun k => w.heap.size ≤ k) A' (cutL l) := by
  have c0 : ((w.alloc (.cells #[.bool neg, .slice A L c] 52)).alloc (.cells #[.bool false, .slice none 0 0] 52)).cell? ⟨w.heap.size, 0, none⟩ = some (.bool neg) := by simp
  have c1 : ((w.alloc (.cells #[.bool neg, .slice A L c] 52)).alloc (.cells #[.bool false, .slice none 0 0] 52)).cell? ⟨w.heap.size, 1, none⟩ = some (.slice A L c) := by simp
  have k0 : Keep nob w ((w.alloc (.cells #[.bool neg, .slice A L c] 52)).alloc (.cells #[.bool false, .slice none 0 0] 52)) := ((Keep.refl _ _).alloc _).alloc _
  have t0 := there_alloc_new (w.alloc (.cells #[.bool neg, .slice A L c] 52)) #[.bool false, .slice none 0 0] 52 2 (Nat.le_refl _)
  obtain ⟨w0, HW0⟩ : ∃ w0, Hid ((w.alloc (.cells #[.bool neg, .slice A L c] 52)).alloc (.cells #[.bool false, .slice none 0 0] 52) = w0) := ⟨_, Lib.hid rfl⟩
  rw [HW0.out] at c0 c1 k0 t0
  have hN := wsigned_ok neg A c L l w0 hL (h.keep k0 (fun ⟨_, _, h⟩ => h)) hl
  obtain ⟨n, HN⟩ : ∃ n, Hid (cutN l L = n) := ⟨_, Lib.hid rfl⟩
  rw [HN.out] at hN
  unfold intV at hN ⊢
  have HK0 := Lib.hid k0
  have HT0 := Lib.hid t0
  clear k0 h hL t0
  go_enter Tryz.func90, Tryz.ntmps90
  go_upto_region 1 with (fail)
  have HSZ : Hid ((w.alloc (.cells #[.bool neg, .slice A L c] 52)).heap.size = w.heap.size + 1) := by unfold Hid; simp
  rw [HW0.out]
  obtain ⟨b2, HB2⟩ : ∃ b2, Hid (w.heap.size + 1 = b2) := ⟨_, Lib.hid rfl⟩
  have HT2 : Hid (w0.there b2 0 2) := by rw [← HB2.out, ← HSZ.out]; exact HT0.out
  clear HT0
  have HL2 : Hid (b2 < w0.heap.size) := by
    have := HT2.out 0 (by decide)
    obtain ⟨v, hv⟩ := Option.isSome_iff_exists.1 this.1
    exact World.block_lt_of_cell? w0 _ hv
  simp only [HB2.out]
  go_wp2_with (first
    | (go_at_call 116; go_must (refine hN.mono ?_); rintro e w1 ⟨hk1, A', rfl, hs1, hl1⟩; have HK1 := Lib.hid hk1; have HS1 := Lib.hid hs1; have HL1 := Lib.hid hl1; clear hk1 hs1 hl1)
    | (go_at_call 115; go_must (refine (made_ok _ _ _ _ _).mono ?_); rintro e w2 ⟨rfl, hk2⟩; unfold intV; have HK2 := Lib.hid hk2; clear hk2; obtain ⟨v0, v1, ⟨d0, d1⟩, f0, f1⟩ := two ((HT2.out.keep' HK1.out).keep' HK2.out)))
  obtain ⟨w3, e3, p0, p1, k3⟩ := put2 ((HT2.out.keep' HK1.out).keep' HK2.out) (.bool (decide (sgn neg n = -1) && decide (0 < n))) (.slice A' n n)
  rw [e3.out]
  have k9 : Keep (· = b2) w0 w3 := ((HK1.out.then_ HK2.out).mono (fun _ _ h => h.elim)).then_ k3
  refine ret_int rfl rfl rfl p0 p1 ⟨HK0.out.trans k9 (fun k h1 h2 => by have := HB2.out; omega), A', by rw [HN.out, sgn_neg]; rfl, ?_, ?_⟩
  · rw [HN.out]
    exact (HS1.out.keep HK2.out (fun ⟨_, _, h⟩ => h)).keepD k3 HL1.out (fun k hk e => by have := HL2.out; omega)
  · exact HL1.out.mono HS1.out (fun k _ hk => by have := HL2.out; have := HB2.out; omega)
end Go.Proofs.YtiemkfibpfndaaaGreatDoor

/- A whole number as a value; small numbers. -/
namespace Go.Proofs.YtiemkfibpfndaaaGreatDoor
open Go.RowKit

/-- a result in a cell -/
theorem ret_v {fn : Func} {p : Tmp} {R : Ending → World → Prop} {a : Act} {w : World} {b : Nat} {r : Raw} (h : fn.results = #[.cell p 55]) (hp : a.tmps.getD p undef = .pointer (some ⟨b, 0, none⟩)) (hd : a.defers = [])
    (hr : w.rangeAt b 0 (ER.cells r)) (hR : R (.returned (ER.val r)) w) : bodyPost Tryz.prog fn R .ret a w := by
  refine bodyPost_ret (v := ER.val r) ?_ hd hR
  have hl := load_val hr
  have hp' : a.tmps[p]?.getD undef = .pointer (some ⟨b, 0, none⟩) := by rw [← hp]; simp
  simp [results, h, hp', asAddr, hl]
theorem Tr.int {W : World} {D : Nat → Prop} {neg : Bool} {A : Option Addr} {n : Nat} {l : List Nat} (hs : Sl EU W A n l) (hl : Lies D A l) (hn : l.length = n) : Tr W D ⟨3, 0, neg, A, n, n, 0, 0, ⟨#[]⟩, none, 0, 0⟩ (V.int neg l) :=
  ⟨rfl, rfl, rfl, rfl, rfl, rfl, ⟨hn.symm, hs, hl⟩, [], rfl, Sl.nil_ ER W none (Nat.zero_le _), fun h => absurd rfl h, trivial⟩
set_option maxRecDepth 100000 in
theorem OfInt_ok (neg : Bool) (A : Option Addr) (c L : Nat) (l : List Nat) (w : World) (hL : l.length = L) (h : Sl EU w A c l) (hl : L ≤ 1000000000) :
    Calls Tryz.prog 89 #[intV neg A L c] w fun e w' => Keep nob w w' ∧ ∃ r, e = .returned (ER.val r) ∧ Tr w' (fun k => w.heap.size ≤ k) r (V.int (negN neg (cutN l L)) (cutL l)) := by
  obtain ⟨w0, b2, HW0, HB2, HK0, HT0, HL0⟩ := start (w.alloc (.cells #[.bool neg, .slice A L c] 52))
  have ka : Keep nob w (w.alloc (.cells #[.bool neg, .slice A L c] 52)) := (Keep.refl _ _).alloc _
  have c0 : w0.cell? ⟨w.heap.size, 0, none⟩ = some (.bool neg) := HK0.out.cell (by simp) (fun h => h)
  have c1 : w0.cell? ⟨w.heap.size, 1, none⟩ = some (.slice A L c) := HK0.out.cell (by simp) (fun h => h)
  have HKA := Lib.hid (ka.then_ HK0.out)
  have hN := wNorm_ok neg A c L l w0 hL (h.keep HKA.out (fun ⟨_, _, h⟩ => h)) hl
  have hcl : (cutL l).length = cutN l L := by rw [cutL_len, hL]
  have HSZ : Hid ((w.alloc (.cells #[.bool neg, .slice A L c] 52)).heap.size = w.heap.size + 1) := by unfold Hid; simp
  have HB3 : Hid (w.heap.size + 1 = b2) := by unfold Hid; rw [← HSZ.out]; exact HB2.out
  have HS : Hid (w.heap.size ≤ b2 ∧ b2 < w0.heap.size) := by have h1 := HL0.out; have h2 := HB3.out; exact ⟨by omega, h1.2⟩
  clear HL0 HK0 ka
  obtain ⟨n, HN⟩ : ∃ n, Hid (cutN l L = n) := ⟨_, Lib.hid rfl⟩
  obtain ⟨g, HG⟩ : ∃ g, Hid (negN neg n = g) := ⟨_, Lib.hid rfl⟩
  rw [HN.out, HG.out] at hN
  rw [HN.out] at hcl
  have HCL := Lib.hid hcl
  clear h hL hcl
  unfold intV at hN ⊢
  go_enter Tryz.func89, Tryz.ntmps89
  go_upto_region 1 with (fail)
  rw [HW0.out]
  simp only [HB3.out]
  go_wp2_with (go_at_call 90; go_must (refine hN.mono ?_); rintro e w1 ⟨hk1, A', rfl, hs1, hl1⟩; have HK1 := Lib.hid hk1; have HS1 := Lib.hid hs1; have HL1 := Lib.hid hl1; clear hk1 hs1 hl1; obtain ⟨v0, v1, v2, v3, v4, v5, v6, v7, ⟨d0, d1, d2, d3, d4, d5, d6, d7⟩, f0, f1, f2, f3, f4, f5, f6, f7⟩ := eight (HT0.out.keep' HK1.out))
  obtain ⟨w2, e2, r2, k2⟩ := put8 (HT0.out.keep' HK1.out) ⟨3, 0, g, A', n, n, 0, 0, ⟨#[]⟩, none, 0, 0⟩ (.int .i8 3) (.int .u64 0) (.bool g) (.slice A' n n) (.int .u64 0) (.int .i8 0) (.string ⟨#[]⟩) (.slice none 0 0) rfl
  rw [e2.out]
  have HA := HS.out
  refine ret_v rfl rfl rfl r2 ⟨(HKA.out.then_ HK1.out).trans k2 (fun k h1 h2 => by omega), _, rfl, ?_⟩
  rw [HN.out, HG.out]
  refine Tr.int (HS1.out.keepD k2 HL1.out (fun k hk e => by omega)) (HL1.out.mono HS1.out (fun k _ hk => by omega)) HCL.out
end Go.Proofs.YtiemkfibpfndaaaGreatDoor

/- Small numbers as lists of limbs, as whole numbers. -/
namespace Go.Proofs.YtiemkfibpfndaaaGreatDoor
open Go.RowKit

/-- a small number's two limbs -/
def two32 (x : Nat) : List Nat := [x % 4294967296, x / 4294967296]
theorem two32_sl (w : World) (x : Nat) (T : TypeId) : Sl EU (w.alloc (.cells #[.int .u32 ((x % 4294967296 : Nat) : Int), .int .u32 ((x / 4294967296 : Nat) : Int)] T)) (some ⟨w.heap.size, 0, none⟩) 2 (two32 x) :=
  ⟨Nat.le_refl _, by decide, fun _ => ⟨_, _, rfl, range_alloc_new w _ T _ (fun j v hj => by simpa [two32, El.flat_cons, El.flat_nil, EU] using hj)⟩⟩
set_option maxRecDepth 100000 in
theorem nFrom_ok (x : Nat) (hx : x < 18446744073709551616) (w : World) :
    Calls Tryz.prog 128 #[.int .u64 (x : Int)] w fun e w' => Keep nob w w' ∧ ∃ A', e = .returned (.slice A' (cutN (two32 x) 2) (cutN (two32 x) 2)) ∧ Sl EU w' A' (cutN (two32 x) 2) (cutL (two32 x)) ∧ Lies (fun k => w.heap.size ≤ k) A' (cutL (two32 x)) := by
  obtain ⟨lo, HLO⟩ : ∃ lo : Nat, Hid (x % 4294967296 = lo) := ⟨_, Lib.hid rfl⟩
  obtain ⟨hi, HHI⟩ : ∃ hi : Nat, Hid (x / 4294967296 = hi) := ⟨_, Lib.hid rfl⟩
  have i1 : IntKind.u32.wrap (x : Int) = (lo : Int) := by rw [IntKind.wrap_u32, ← HLO.out]; omega
  have i2 : (x : Int) / 4294967296 = (hi : Int) := by rw [← HHI.out]; omega
  have i3 : IntKind.u32.wrap (hi : Int) = (hi : Int) := by rw [IntKind.wrap_u32, ← HHI.out]; omega
  have hs := two32_sl w x 130
  rw [HLO.out, HHI.out] at hs
  have hC := cut_ok (some ⟨w.heap.size, 0, none⟩) 2 2 (two32 x) _ rfl hs
  have HS := Lib.hid hs
  obtain ⟨n, HN⟩ : ∃ n, Hid (cutN (two32 x) 2 = n) := ⟨_, Lib.hid rfl⟩
  obtain ⟨l, HL⟩ : ∃ l, Hid (two32 x = l) := ⟨_, Lib.hid rfl⟩
  have HLL : Hid (l.length = 2) := by unfold Hid; rw [← HL.out]; rfl
  rw [HN.out] at hC
  rw [HL.out] at HS
  clear hs
  go_enter Tryz.func128, Tryz.ntmps128
  go_wp2_with (go_at_call 148; go_must (refine hC.mono ?_); rintro e w1 ⟨rfl, rfl⟩)
  go_ret
  have hcs := cut_sl HS.out
  rw [HN.out, HL.out]
  rw [HLL.out, ← HL.out, HN.out, HL.out] at hcs
  exact ⟨(Keep.refl _ _).alloc _, _, rfl, hcs, fun _ => ⟨_, rfl, Nat.le_refl _⟩⟩
end Go.Proofs.YtiemkfibpfndaaaGreatDoor

/- packread's families of numbers: small ones. -/
namespace Go.Proofs.YtiemkfibpfndaaaGreatDoor
open Go.RowKit

/-- a whole number's new cells -/
theorem start2 (w : World) : ∃ w0 b4, Hid (w.alloc (.cells #[.bool false, .slice none 0 0] 52) = w0) ∧ Hid (w.heap.size = b4) ∧ Hid (Keep nob w w0) ∧ Hid (w0.there b4 0 2) ∧ Hid (w.heap.size ≤ b4 ∧ b4 < w0.heap.size) :=
  ⟨_, _, Lib.hid rfl, Lib.hid rfl, Lib.hid ((Keep.refl _ _).alloc _), Lib.hid (there_alloc_new w _ _ 2 (Nat.le_refl _)), Lib.hid ⟨Nat.le_refl _, by simp⟩⟩
set_option maxRecDepth 100000 in
theorem wFrom_neg (x : Nat) (h0 : 0 < x) (hx : x < 9223372036854775808) (w : World) :
    Calls Tryz.prog 95 #[.int .i64 (-(x : Int))] w fun e w' => Keep nob w w' ∧ ∃ A', e = .returned (intV (decide (0 < cutN (two32 x) 2)) A' (cutN (two32 x) 2) (cutN (two32 x) 2)) ∧ Sl EU w' A' (cutN (two32 x) 2) (cutL (two32 x)) ∧ Lies (fun k => w.heap.size ≤ k) A' (cutL (two32 x)) := by
  obtain ⟨w0, b2, HW0, HB2, HK0, HT0, HL0⟩ := start2 w
  have hN := nFrom_ok x (by omega) w0
  obtain ⟨n, HN⟩ : ∃ n, Hid (cutN (two32 x) 2 = n) := ⟨_, Lib.hid rfl⟩
  obtain ⟨l, HL⟩ : ∃ l, Hid (cutL (two32 x) = l) := ⟨_, Lib.hid rfl⟩
  obtain ⟨z, HZ⟩ : ∃ z : Int, Hid (-(x : Int) = z) := ⟨_, Lib.hid rfl⟩
  rw [HN.out, HL.out] at hN ⊢
  rw [HZ.out]
  have hz : z < 0 := by have := HZ.out; omega
  obtain ⟨u, HU⟩ : ∃ u : Int, Hid (IntKind.u64.wrap z = u) := ⟨_, Lib.hid rfl⟩
  have i1 : IntKind.u64.wrap z = u := HU.out
  have i2 : IntKind.u64.wrap (-u) = (x : Int) := by rw [← HU.out, IntKind.wrap_u64, IntKind.wrap_u64, ← HZ.out]; omega
  have hu0 : 0 ≤ u := by rw [← HU.out, IntKind.wrap_u64]; omega
  clear h0
  go_enter Tryz.func95, Tryz.ntmps95
  go_upto_region 1 with (fail)
  rw [HW0.out, HB2.out]
  go_wp2_with (first
    | (go_at_call 128; go_must (refine hN.mono ?_); rintro e w1 ⟨hk1, A', rfl, hs1, hl1⟩; have HK1 := Lib.hid hk1; have HS1 := Lib.hid hs1; have HL1 := Lib.hid hl1; clear hk1 hs1 hl1)
    | (go_at_call 115; go_must (refine (made_ok _ _ _ _ _).mono ?_); rintro e w2 ⟨rfl, hk2⟩; unfold intV; have HK2 := Lib.hid hk2; clear hk2; obtain ⟨v0, v1, ⟨d0, d1⟩, f0, f1⟩ := two ((HT0.out.keep' HK1.out).keep' HK2.out)))
  obtain ⟨w3, e3, p0, p1, k3⟩ := put2 ((HT0.out.keep' HK1.out).keep' HK2.out) (.bool (decide (0 < n))) (.slice A' n n)
  rw [e3.out]
  have HA := HL0.out
  have k9 : Keep (· = b2) w0 w3 := ((HK1.out.then_ HK2.out).mono (fun _ _ h => h.elim)).then_ k3
  exact ret_int rfl rfl rfl p0 p1 ⟨HK0.out.trans k9 (fun k h1 h2 => by omega), A', rfl, (HS1.out.keep HK2.out (fun ⟨_, _, h⟩ => h)).keepD k3 HL1.out (fun k hk e => by omega), HL1.out.mono HS1.out (fun k _ hk => by omega)⟩

/-! ### families -/
/-- the words of whole numbers: by two limbs -/
def wholeV (x : Nat) : V := V.int (negN (negN false (cutN (two32 x) 2)) (cutN (cutL (two32 x)) (cutN (two32 x) 2))) (cutL (cutL (two32 x)))
def belowV (x : Nat) : V := V.int (negN (decide (0 < cutN (two32 x) 2)) (cutN (cutL (two32 x)) (cutN (two32 x) 2))) (cutL (cutL (two32 x)))
set_option maxRecDepth 100000 in
theorem below_ok (b x : Nat) (h0 : 0 < x) (hx : x ≤ 256) (w : World) : Calls Tryz.prog 66 #[.pointer (some ⟨b, 0, none⟩), .int .u64 (x : Int)] w fun e w' =>
    Keep nob w w' ∧ ∃ r, e = .returned (.tuple #[ER.val r, .nilIface]) ∧ Tr w' (fun k => w.heap.size ≤ k) r (belowV x) := by
  obtain ⟨w0, b4, HW0, HB4, HK0, HT0, HL0⟩ := start w
  have hF := wFrom_neg x h0 (by omega) w0
  have hcl : (cutL (two32 x)).length = cutN (two32 x) 2 := cutL_len _
  have hle : cutN (two32 x) 2 ≤ 2 := cutN_le _ _
  unfold belowV
  obtain ⟨n, HN⟩ : ∃ n, Hid (cutN (two32 x) 2 = n) := ⟨_, Lib.hid rfl⟩
  obtain ⟨l, HL⟩ : ∃ l, Hid (cutL (two32 x) = l) := ⟨_, Lib.hid rfl⟩
  obtain ⟨g, HG⟩ : ∃ g, Hid (decide (0 < n) = g) := ⟨_, Lib.hid rfl⟩
  obtain ⟨z, HZ⟩ : ∃ z : Int, Hid (-(x : Int) = z) := ⟨_, Lib.hid rfl⟩
  rw [HN.out, HL.out, HG.out, HZ.out] at hF
  rw [HN.out, HL.out] at hcl
  rw [HN.out] at hle
  rw [HN.out, HL.out, HG.out]
  have i1 : IntKind.i64.wrap (x : Int) = (x : Int) := by rw [IntWalk.i64_left, IntWalk.wrap64_in _ ⟨by omega, by omega⟩]
  have i2 : IntKind.i64.wrap z = z := by rw [IntWalk.i64_left, IntWalk.wrap64_in _ ⟨by have := HZ.out; omega, by have := HZ.out; omega⟩]
  have hO := fun (A' : Option Addr) (w1 : World) (hs : Sl EU w1 A' n l) => OfInt_ok g A' n n l w1 hcl hs (by omega)
  have HO := Lib.hid hO
  have i3 := HZ.out
  clear hcl hO hle
  go_enter Tryz.func66, Tryz.ntmps66
  go_upto_region 1 with (fail)
  rw [HW0.out, HB4.out]
  go_wp2_with (first
    | (go_at_call 95; go_must (refine hF.mono ?_); rintro e w1 ⟨hk1, A', rfl, hs1, hl1⟩; have HK1 := Lib.hid hk1; have HS1 := Lib.hid hs1; have HL1 := Lib.hid hl1; clear hk1 hs1 hl1)
    | (go_at_call 89; go_must (refine (HO.out _ _ HS1.out).mono ?_); rintro e w2 ⟨hk2, r, rfl, ht2⟩; have HK2 := Lib.hid hk2; have HT2 := Lib.hid ht2; clear hk2 ht2; unfold ER; obtain ⟨v0, v1, v2, v3, v4, v5, v6, v7, ⟨d0, d1, d2, d3, d4, d5, d6, d7⟩, f0, f1, f2, f3, f4, f5, f6, f7⟩ := eight ((HT0.out.keep' HK1.out).keep' HK2.out)))
  obtain ⟨w3, e3, r3, k3⟩ := put8 ((HT0.out.keep' HK1.out).keep' HK2.out) r (.int .i8 (r.kind : Int)) (.int .u64 (r.n : Int)) (.bool r.neg) (.slice r.mA r.mL r.mC) (.int .u64 (r.bits : Int)) (.int .i8 r.ext) (.string r.text) (.slice r.kA r.kL r.kC) rfl
  rw [e3.out]
  have HA := HL0.out
  have HZ1 := HK1.out.size
  have k9 : Keep (· = b4) w0 w3 := ((HK1.out.then_ HK2.out).mono (fun _ _ h => h.elim)).then_ k3
  exact ret_vt rfl rfl rfl rfl r3 ⟨HK0.out.trans k9 (fun k h1 h2 => by omega), r, rfl, Tr.mono (fun k _ hk => by omega) _ _ (Tr.keep k3 (fun k hk e => by omega) _ _ HT2.out)⟩
end Go.Proofs.YtiemkfibpfndaaaGreatDoor

/- packread's family of whole numbers. -/
namespace Go.Proofs.YtiemkfibpfndaaaGreatDoor
open Go.RowKit

set_option maxRecDepth 100000 in
theorem whole_ok (b x : Nat) (hx : x < 18446744073709551616) (w : World) : Calls Tryz.prog 62 #[.pointer (some ⟨b, 0, none⟩), .int .u64 (x : Int)] w fun e w' =>
    Keep nob w w' ∧ ∃ r, e = .returned (.tuple #[ER.val r, .nilIface]) ∧ Tr w' (fun k => w.heap.size ≤ k) r (wholeV x) := by
  obtain ⟨w0, b4, HW0, HB4, HK0, HT0, HL0⟩ := start w
  have hs := two32_sl w0 x 130
  have hcl : (cutL (two32 x)).length = cutN (two32 x) 2 := cutL_len _
  have hle : cutN (two32 x) 2 ≤ 2 := cutN_le _ _
  obtain ⟨lo, HLO⟩ : ∃ lo : Nat, Hid (x % 4294967296 = lo) := ⟨_, Lib.hid rfl⟩
  obtain ⟨hi, HHI⟩ : ∃ hi : Nat, Hid (x / 4294967296 = hi) := ⟨_, Lib.hid rfl⟩
  have i1 : IntKind.u32.wrap (x : Int) = (lo : Int) := by rw [IntKind.wrap_u32, ← HLO.out]; omega
  have i2 : (x : Int) / 4294967296 = (hi : Int) := by rw [← HHI.out]; omega
  have i3 : IntKind.u32.wrap (hi : Int) = (hi : Int) := by rw [IntKind.wrap_u32, ← HHI.out]; omega
  rw [HLO.out, HHI.out] at hs
  have hN := wNorm_ok false (some ⟨w0.heap.size, 0, none⟩) 2 2 (two32 x) _ rfl hs (by decide)
  unfold wholeV
  obtain ⟨n, HN⟩ : ∃ n, Hid (cutN (two32 x) 2 = n) := ⟨_, Lib.hid rfl⟩
  obtain ⟨l, HL⟩ : ∃ l, Hid (cutL (two32 x) = l) := ⟨_, Lib.hid rfl⟩
  obtain ⟨g, HG⟩ : ∃ g, Hid (negN false n = g) := ⟨_, Lib.hid rfl⟩
  rw [HN.out, HL.out, HG.out] at hN
  rw [HN.out, HL.out] at hcl
  rw [HN.out] at hle
  rw [HN.out, HL.out, HG.out]
  have hO := fun (A' : Option Addr) (w1 : World) (hs : Sl EU w1 A' n l) => OfInt_ok g A' n n l w1 hcl hs (by omega)
  have HO := Lib.hid hO
  have HKB : Hid (Keep nob w0 (w0.alloc (.cells #[.int .u32 (lo : Int), .int .u32 (hi : Int)] 130))) := (Keep.refl _ _).alloc _
  have HN2 := Lib.hid hN
  unfold intV at HN2
  clear hcl hO hle hs hN
  go_enter Tryz.func62, Tryz.ntmps62
  go_upto_region 1 with (fail)
  rw [HW0.out, HB4.out]
  go_wp2_with (first
    | (go_at_call 90; go_must (refine HN2.out.mono ?_); rintro e w1 ⟨hk1, A', rfl, hs1, hl1⟩; have HK1 := Lib.hid (HKB.out.then_ hk1); have HS1 := Lib.hid hs1; have HL1 := Lib.hid hl1; clear hk1 hs1 hl1)
    | (go_at_call 89; go_must (refine (HO.out _ _ HS1.out).mono ?_); rintro e w2 ⟨hk2, r, rfl, ht2⟩; have HK2 := Lib.hid hk2; have HT2 := Lib.hid ht2; clear hk2 ht2; unfold ER; obtain ⟨v0, v1, v2, v3, v4, v5, v6, v7, ⟨d0, d1, d2, d3, d4, d5, d6, d7⟩, f0, f1, f2, f3, f4, f5, f6, f7⟩ := eight ((HT0.out.keep' HK1.out).keep' HK2.out)))
  obtain ⟨w3, e3, r3, k3⟩ := put8 ((HT0.out.keep' HK1.out).keep' HK2.out) r (.int .i8 (r.kind : Int)) (.int .u64 (r.n : Int)) (.bool r.neg) (.slice r.mA r.mL r.mC) (.int .u64 (r.bits : Int)) (.int .i8 r.ext) (.string r.text) (.slice r.kA r.kL r.kC) rfl
  rw [e3.out]
  have HA := HL0.out
  have HZ1 := HK1.out.size
  have k9 : Keep (· = b4) w0 w3 := ((HK1.out.then_ HK2.out).mono (fun _ _ h => h.elim)).then_ k3
  exact ret_vt rfl rfl rfl rfl r3 ⟨HK0.out.trans k9 (fun k h1 h2 => by omega), r, rfl, Tr.mono (fun k _ hk => by omega) _ _ (Tr.keep k3 (fun k hk e => by omega) _ _ HT2.out)⟩
end Go.Proofs.YtiemkfibpfndaaaGreatDoor

/- packread's families: what they answer; extensions. -/
namespace Go.Proofs.YtiemkfibpfndaaaGreatDoor
open Go.RowKit

/-- what a family answers, by what is read -/
def FamPost (sa : Nat → Addr) (b : Nat) (s : ByteArray) (op : Nat) (w : World) (x : R V) (e : Ending) (w' : World) : Prop := match x with
  | .ok v q => Keep (· = b) w w' ∧ (∃ fr, Rd w' b s q fr op) ∧ ∃ r, e = .returned (.tuple #[ER.val r, .nilIface]) ∧ Tr w' (fun k => w.heap.size ≤ k) r v
  | .bad c q => ∃ ev, e = .returned (.tuple #[ER.val Raw.zero, ev]) ∧ Keep (· = b) w w' ∧ FErr sa w' (fun k => w.heap.size ≤ k) ev c q

theorem take_size {s t : ByteArray} {p n q : Nat} (h : takeR s p n = .ok t q) : t = s.extract p (p + n) ∧ q = p + n ∧ (p ≤ s.size → q ≤ s.size) := by
  unfold takeR at h
  split at h
  · cases h
  · simp only [R.ok.injEq] at h
    exact ⟨h.1.symm, h.2.symm, fun _ => by omega⟩
theorem wrap_i8 (c : Nat) (h : c < 256) : IntKind.i8.wrap (c : Int) = if c < 128 then (c : Int) else (c : Int) - 256 := by
  have e1 : (c : Int) % 256 = (c : Int) := by omega
  by_cases hc : c < 128
  · have h2 : ¬ (c : Int) ≥ 128 := by omega
    simp [IntKind.wrap, IntKind.bits, IntKind.signed, e1, hc, h2]
  · have h2 : (c : Int) ≥ 128 := by omega
    simp [IntKind.wrap, IntKind.bits, IntKind.signed, e1, hc, h2]
theorem head_at {e : ByteArray} (h : 0 < e.size) : (e[0]'h).toNat = (bl e).headD 0 := by
  obtain ⟨⟨l⟩⟩ := e
  cases l with
  | nil => simp [ByteArray.size] at h
  | cons a l => rfl
set_option maxRecDepth 100000 in
theorem ext_ok (b : Nat) (s : ByteArray) (p fr op n B : Nat) (sa : Nat → Addr) (w : World) (g : GL B sa w) (hB : B ≤ b) (hr : Rd w b s p fr op) (hp : p ≤ s.size) (hs : s.size ≤ 1152921504606846976) (hn : n < 18446744073709551616) : Calls Tryz.prog 69 #[.pointer (some ⟨b, 0, none⟩), .int .u64 (n : Int)] w
    (FamPost sa b s op w ((takeR s p 1).bind fun e p1 => (takeR s p1 n).bind fun t p2 => .ok (V.xt (let c := (bl e).headD 0; if c < 128 then c else (c : Int) - 256) t) p2)) := by
  have hbl : b < w.heap.size := World.block_lt_of_cell? w _ hr.c0
  obtain ⟨w0, b4, HW0, HB4, HK0, HT0, HL0⟩ := start w
  have HG0 := Lib.hid (g.keep HK0.out (fun _ h => h.elim))
  have hT := take_ok b s p fr op 1 B sa w0 HG0.out (hr.keep HK0.out (fun h => h)) hp hs (by decide)
  have HA := HL0.out
  cases ht : takeR s p 1 with
  | bad c q =>
    rw [ht] at hT
    dsimp only [R.bind, FamPost] at hT ⊢
    go_enter Tryz.func69, Tryz.ntmps69
    go_upto_region 1 with (fail)
    rw [HW0.out, HB4.out]
    go_upto_region 2 with (go_at_call 39; go_must (refine hT.mono ?_); rintro e w1 ⟨ev, rfl, hk, he⟩)
    have th := hk.there HT0.out (fun h => h)
    obtain ⟨bb, rfl, he1⟩ := he
    obtain ⟨v0, v1, v2, v3, v4, v5, v6, v7, ⟨c0, c1, c2, c3, c4, c5, c6, c7⟩, f0, f1, f2, f3, f4, f5, f6, f7⟩ := eight th
    go_wp2
    obtain ⟨w2, e2, r2, k2⟩ := put8 th Raw.zero (.int .i8 0) (.int .u64 0) (.bool false) (.slice none 0 0) (.int .u64 0) (.int .i8 0) (.string ⟨#[]⟩) (.slice none 0 0) rfl
    rw [e2.out]
    have he : FErr sa w1 (fun k => w0.heap.size ≤ k) _ c q := ⟨bb, rfl, he1⟩
    exact ret_vt rfl rfl rfl rfl r2 ⟨_, rfl, ((HK0.out.then_ hk).mono (fun _ _ h => h.elim)).trans k2 (fun k h1 h2 => by omega),
      (he.keep k2 (fun k hk e => by omega)).mono (fun k _ hk => by omega)⟩
  | ok e1 p1 =>
    obtain ⟨e0, rfl, hp1⟩ := take_size ht
    have hp1 := hp1 hp
    have hsz : e1.size = 1 := by rw [e0, ByteArray.size_extract]; omega
    have hpos : 0 < e1.size := by omega
    obtain ⟨c, HC⟩ : ∃ c : Nat, Hid ((bl e1).headD 0 = c) := ⟨_, Lib.hid rfl⟩
    have hc0 : (e1[0]'hpos).toNat = c := by rw [← HC.out]; exact head_at hpos
    have hc1 : c < 256 := by rw [← hc0]; exact UInt8.toNat_lt _
    rw [ht] at hT
    dsimp only [R.bind] at hT ⊢
    rw [HC.out]
    obtain ⟨x, HX⟩ : ∃ x : Int, Hid ((if c < 128 then (c : Int) else (c : Int) - 256) = x) := ⟨_, Lib.hid rfl⟩
    have hcx : IntKind.i8.wrap (c : Int) = x := by
      rw [← HX.out]
      exact wrap_i8 c hc1
    rw [HX.out]
    clear e0
    have hT2 := fun (w1 : World) (g1 : GL B sa w1) (r1 : Rd w1 b s (p + 1) fr op) => take_ok b s (p + 1) fr op n B sa w1 g1 r1 hp1 hs hn
    cases ht2 : takeR s (p + 1) n with
    | bad c q =>
      rw [ht2] at hT2
      dsimp only [R.bind, FamPost] at hT2 ⊢
      go_enter Tryz.func69, Tryz.ntmps69
      go_upto_region 1 with (fail)
      rw [HW0.out, HB4.out]
      go_upto_region 2 with (go_at_call 39; go_must (refine hT.mono ?_); rintro e w1 ⟨rfl, hk, hr1⟩)
      have hbw : b < w1.heap.size := World.block_lt_of_cell? w1 _ hr1.c0
      have hT3 := hT2 w1 (HG0.out.keep hk (fun k h => by omega)) hr1
      go_upto_region 5 with (go_at_call 39; go_must (refine hT3.mono ?_); rintro e w2 ⟨ev, rfl, hk2, he⟩)
      have th := hk2.there (hk.there HT0.out (fun h => by omega)) (fun h => h)
      obtain ⟨bb, rfl, he1⟩ := he
      obtain ⟨v0, v1, v2, v3, v4, v5, v6, v7, ⟨c0, c1, c2, c3, c4, c5, c6, c7⟩, f0, f1, f2, f3, f4, f5, f6, f7⟩ := eight th
      go_wp2
      obtain ⟨w3, e2, r2, k2⟩ := put8 th Raw.zero (.int .i8 0) (.int .u64 0) (.bool false) (.slice none 0 0) (.int .u64 0) (.int .i8 0) (.string ⟨#[]⟩) (.slice none 0 0) rfl
      rw [e2.out]
      have he : FErr sa w2 (fun k => w1.heap.size ≤ k) _ c q := ⟨bb, rfl, he1⟩
      have hks := hk.size
      exact ret_vt rfl rfl rfl rfl r2 ⟨_, rfl, (((HK0.out.mono (fun _ _ h => h.elim)).then_ hk).trans hk2 (fun _ _ h => h.elim)).trans k2 (fun k h1 h2 => by omega),
        (he.keep k2 (fun k hk e => by omega)).mono (fun k _ hk => by omega)⟩
    | ok t q =>
      rw [ht2] at hT2
      dsimp only [R.bind, FamPost] at hT2 ⊢
      go_enter Tryz.func69, Tryz.ntmps69
      go_upto_region 1 with (fail)
      rw [HW0.out, HB4.out]
      go_upto_region 2 with (go_at_call 39; go_must (refine hT.mono ?_); rintro e w1 ⟨rfl, hk, hr1⟩)
      have hT3 := hT2 w1 (HG0.out.keep hk (fun k h => by omega)) hr1
      go_upto_region 5 with (go_at_call 39; go_must (refine hT3.mono ?_); rintro e w2 ⟨rfl, hk2, hr2⟩)
      have th := hk2.there (hk.there HT0.out (fun h => by omega)) (fun h => by omega)
      obtain ⟨v0, v1, v2, v3, v4, v5, v6, v7, ⟨c0, c1, c2, c3, c4, c5, c6, c7⟩, f0, f1, f2, f3, f4, f5, f6, f7⟩ := eight th
      go_wp2
      obtain ⟨w3, e2, r2, k2⟩ := put8 th ⟨11, 0, false, none, 0, 0, 0, x, t, none, 0, 0⟩ (.int .i8 11) (.int .u64 0) (.bool false) (.slice none 0 0) (.int .u64 0) (.int .i8 x) (.string t) (.slice none 0 0) rfl
      rw [e2.out]
      have hks := hk.size
      exact ret_vt rfl rfl rfl rfl r2 ⟨(((HK0.out.mono (fun _ _ h => h.elim)).then_ hk).then_ hk2).trans k2 (fun k h1 h2 => by omega), ⟨_, hr2.keep k2 (fun h => by omega)⟩, _, rfl, Tr.flat _ _ _ _ _ _ _ _⟩
end Go.Proofs.YtiemkfibpfndaaaGreatDoor

/- Code points: point, follow. -/
namespace Go.Proofs.YtiemkfibpfndaaaGreatDoor
open Go.RowKit

theorem point_ok (r : Nat) (w : World) : Calls Tryz.prog 126 #[.int .i32 (r : Int)] w fun e w' => e = .returned (.bool (pointN r)) ∧ w' = w := by
  have h0 : (0 : Int) ≤ (r : Int) := by omega
  by_cases h1 : r ≤ 0x10ffff
  · have i1 : (r : Int) ≤ 1114111 := by omega
    by_cases h2 : r < 0xd800
    · have i2 : (r : Int) < 55296 := by omega
      go_enter Tryz.func126, Tryz.ntmps126
      go_wp2
      go_ret
      simp [pointN, h1, h2]
    · have i2 : ¬ (r : Int) < 55296 := by omega
      by_cases h3 : 0xdfff < r
      · have i3 : (r : Int) > 57343 := by omega
        go_enter Tryz.func126, Tryz.ntmps126
        go_wp2
        go_ret
        simp [pointN, h1, h2, h3]
      · have i3 : ¬ (r : Int) > 57343 := by omega
        go_enter Tryz.func126, Tryz.ntmps126
        go_wp2
        go_ret
        simp [pointN, h1, h2, h3]
  · have i1 : ¬ (r : Int) ≤ 1114111 := by omega
    go_enter Tryz.func126, Tryz.ntmps126
    go_wp2
    go_ret
    simp [pointN, h1]
/-- the byte at a place, as a number -/
theorem byte_at {s : ByteArray} {i : Nat} (h : i < s.size) : (bl s)[i]? = some (s[i]'h).toNat := by
  obtain ⟨⟨l⟩⟩ := s
  have h' : i < l.length := by simpa [ByteArray.size] using h
  simp only [bl, List.getElem?_map, List.getElem?_eq_getElem h', Option.map_some]
  rfl
theorem and192 (c : Nat) (h : c < 256) : bits .and .u8 (c : Int) 192 = 128 ↔ c / 64 = 2 := by
  have := (show ∀ c : Fin 256, decide (bits .and .u8 ((c.val : Nat) : Int) 192 = 128) = decide (c.val / 64 = 2) by decide +kernel) ⟨c, h⟩
  simpa using this
theorem follow_ok (s : ByteArray) (p : Nat) (w : World) : Calls Tryz.prog 125 #[.string s, .int .i64 (p : Int)] w fun e w' =>
    (match (bl s)[p]? with
    | some b => if b / 64 = 2 then e = .returned (.tuple #[.int .i32 ((b % 64 : Nat) : Int), .bool true]) else e = .returned (.tuple #[.int .i32 0, .bool false])
    | none => e = .returned (.tuple #[.int .i32 0, .bool false])) ∧ w' = w := by
  have hp0 : (0 : Int) ≤ (p : Int) := by omega
  by_cases h : p < s.size
  · rw [byte_at h]
    obtain ⟨c, HC⟩ : ∃ c : Nat, Hid ((s[p]'h).toNat = c) := ⟨_, Lib.hid rfl⟩
    have hc : (s[p]'h).toNat = c := HC.out
    have hc1 : c < 256 := by rw [← hc]; exact UInt8.toNat_lt _
    have hi : ¬ (p : Int) ≥ (s.size : Int) := by omega
    dsimp only
    rw [hc]
    obtain ⟨m, HM⟩ : ∃ m : Int, Hid (bits .and .u8 (c : Int) 192 = m) := ⟨_, Lib.hid rfl⟩
    have hm := HM.out
    have hiff := and192 c hc1
    rw [hm] at hiff
    by_cases h2 : c / 64 = 2
    · have hm2 := hiff.2 h2
      subst hm2
      simp only [if_pos h2]
      clear hiff
      go_enter Tryz.func125, Tryz.ntmps125
      go_wp2
      go_ret2
      exact ⟨by simp, rfl⟩
    · have hm2 : ¬ m = 128 := fun e => h2 (hiff.1 e)
      simp only [if_neg h2]
      clear hiff
      go_enter Tryz.func125, Tryz.ntmps125
      go_wp2
      go_ret2
      exact ⟨rfl, rfl⟩
  · rw [List.getElem?_eq_none (by rw [show (bl s).length = s.size by simp [bl]]; omega)]
    have hi : (p : Int) ≥ (s.size : Int) := by omega
    go_enter Tryz.func125, Tryz.ntmps125
    go_wp2
    go_ret2
    exact ⟨rfl, rfl⟩
end Go.Proofs.YtiemkfibpfndaaaGreatDoor

/- The code point at a place of a text. -/
namespace Go.Proofs.YtiemkfibpfndaaaGreatDoor
open Go.RowKit

theorem and_cls (c : Nat) (h : c < 256) : (bits .and .u8 (c : Int) 224 = 192 ↔ c / 32 = 6) ∧ (bits .and .u8 (c : Int) 240 = 224 ↔ c / 16 = 14) ∧ (bits .and .u8 (c : Int) 248 = 240 ↔ c / 8 = 30) := by
  have h1 := (show ∀ c : Fin 256, decide (bits .and .u8 ((c.val : Nat) : Int) 224 = 192) = decide (c.val / 32 = 6) by decide +kernel) ⟨c, h⟩
  have h2 := (show ∀ c : Fin 256, decide (bits .and .u8 ((c.val : Nat) : Int) 240 = 224) = decide (c.val / 16 = 14) by decide +kernel) ⟨c, h⟩
  have h3 := (show ∀ c : Fin 256, decide (bits .and .u8 ((c.val : Nat) : Int) 248 = 240) = decide (c.val / 8 = 30) by decide +kernel) ⟨c, h⟩
  exact ⟨by simpa using h1, by simpa using h2, by simpa using h3⟩
/-- what First answers -/
def FirstE (x : Option (Nat × Nat)) : Ending := match x with
  | some (r, k) => .returned (.tuple #[.int .i32 (r : Int), .int .i64 (k : Int), .bool true])
  | none => .returned (.tuple #[.int .i32 0, .int .i64 0, .bool false])
theorem first_out (s : ByteArray) (p : Nat) (h : s.size ≤ p) (w : World) (hp : p < 9223372036854775808) : Calls Tryz.prog 93 #[.string s, .int .i64 (p : Int)] w fun e w' => e = FirstE none ∧ w' = w := by
  have h0 : ¬ (p : Int) < 0 := by omega
  have hi : (p : Int) ≥ (s.size : Int) := by omega
  go_enter Tryz.func93, Tryz.ntmps93
  go_wp2
  go_ret3
  exact ⟨rfl, rfl⟩
set_option maxRecDepth 100000 in
theorem first_one (s : ByteArray) (p c : Nat) (h : p < s.size) (hc : (s[p]'h).toNat = c) (h8 : c < 128) (w : World) : Calls Tryz.prog 93 #[.string s, .int .i64 (p : Int)] w fun e w' => e = FirstE (some (c, 1)) ∧ w' = w := by
  have h0 : (0 : Int) ≤ (p : Int) := by omega
  have hi : ¬ (p : Int) ≥ (s.size : Int) := by omega
  have h9 : (c : Int) < 128 := by omega
  have i1 : IntKind.i32.wrap (c : Int) = (c : Int) := by rw [IntKind.wrap_i32]; omega
  go_enter Tryz.func93, Tryz.ntmps93
  go_wp2
  go_ret3
  exact ⟨rfl, rfl⟩
end Go.Proofs.YtiemkfibpfndaaaGreatDoor

/- The code point at a place of a text: of several bytes. -/
namespace Go.Proofs.YtiemkfibpfndaaaGreatDoor
open Go.RowKit

/-- the tail of utf.First, from the loop on -/
def tailN (l : List Nat) (n r least : Nat) (i : Nat) : Option (Nat × Nat) := (contN l (n - i) r).bind fun r' => if least ≤ r' ∧ pointN r' = true then some (r', n) else none
theorem tail_step {l : List Nat} {q b n r least i : Nat} (h : l[q]? = some b) (hi : i < n) : tailN (l.drop q) n r least i = if b / 64 = 2 then tailN (l.drop (q + 1)) n (r * 64 + b % 64) least (i + 1) else none := by
  obtain ⟨hq, hb⟩ := List.getElem?_eq_some_iff.1 h
  unfold tailN
  rw [List.drop_eq_getElem_cons hq, hb, show n - i = (n - (i + 1)) + 1 by omega, contN]
  split <;> rfl
theorem tail_none {l : List Nat} {q n r least i : Nat} (h : l[q]? = none) (hi : i < n) : tailN (l.drop q) n r least i = none := by
  unfold tailN
  rw [List.drop_eq_nil_of_le (List.getElem?_eq_none_iff.1 h), show n - i = (n - (i + 1)) + 1 by omega, contN]
  rfl
theorem tail_end (l : List Nat) (n r least : Nat) : tailN l n r least n = if least ≤ r ∧ pointN r = true then some (r, n) else none := by
  unfold tailN
  rw [Nat.sub_self]
  cases l <;> rfl

set_option maxRecDepth 100000 in
theorem first_two (s : ByteArray) (p c : Nat) (h : p < s.size) (hs : s.size ≤ 1152921504606846976) (hc : (s[p]'h).toNat = c) (hd : c / 32 = 6) (w : World) :
    Calls Tryz.prog 93 #[.string s, .int .i64 (p : Int)] w fun e w' => e = FirstE (tailN ((bl s).drop (p + 1)) 2 (c % 32) 128 1) ∧ w' = w := by
  have h0 : (0 : Int) ≤ (p : Int) := by omega
  have hi : ¬ (p : Int) ≥ (s.size : Int) := by omega
  have h9 : ¬ (c : Int) < 128 := by omega
  have hc1 : c < 256 := by rw [← hc]; exact UInt8.toNat_lt _
  obtain ⟨a1, a2, a3⟩ := and_cls c hc1
  have b1 := a1.2 hd
  obtain ⟨r0, HR0⟩ : ∃ r0 : Nat, Hid (c % 32 = r0) := ⟨_, Lib.hid rfl⟩
  have i1 : (c : Int) % 32 = (r0 : Int) := by rw [← HR0.out]; omega
  have i2 : IntKind.i32.wrap (r0 : Int) = (r0 : Int) := by rw [IntKind.wrap_i32, ← HR0.out]; omega
  have HB0 : Hid (r0 < 64 ^ 1) := by unfold Hid; rw [← HR0.out]; omega
  have HP := Lib.hid h
  have HS := Lib.hid hs
  rw [HR0.out]
  clear a1 a2 a3
  go_enter Tryz.func93, Tryz.ntmps93
  go_wp2_with (fail)
  go_loopw [4, 5, 6, 9, 10, 11] (fun u4 u5 u6 u9 u10 u11 wr => ∃ i r : Nat, 1 ≤ i ∧ i ≤ 2 ∧ u4 = .int .i32 (r : Int) ∧ u5 = .int .i64 2 ∧ u6 = .bool false ∧ u9 = .int .i64 (i : Int) ∧ Hid (r < 64 ^ i) ∧ Hid (tailN ((bl s).drop (p + i)) 2 r 128 i = tailN ((bl s).drop (p + 1)) 2 r0 128 1) ∧ Hid (wr = w)) (fun _ _ _ u9 _ _ _ => 2 - (intOf u9).toNat)
  case atStart => exact ⟨1, r0, by decide, by decide, rfl, rfl, rfl, rfl, HB0, Lib.hid rfl, Lib.hid rfl⟩
  case round =>
    obtain ⟨i, r, h1, h2, rfl, rfl, rfl, rfl, HB, HT, HW⟩ := hrel
    have HW2 := HW.out
    subst HW2
    have hr : r < 16777216 := by
      have := HB.out
      have h3 : 64 ^ i ≤ 64 ^ 4 := Nat.pow_le_pow_right (by decide) (by omega)
      omega
    by_cases hlt : i < 2
    · have hlt2 : (i : Int) < 2 := by omega
      obtain ⟨q, HQ⟩ : ∃ q : Nat, Hid (p + i = q) := ⟨_, Lib.hid rfl⟩
      have hq1 : IntKind.i64.wrap ((p : Int) + (i : Int)) = (q : Int) := by have := HQ.out; rw [IntWalk.i64_left, IntWalk.wrap64_in _ ⟨by omega, by omega⟩]; omega
      have hF := follow_ok s q wr
      have hi3 : IntKind.i64.wrap ((i : Int) + 1) = ((i + 1 : Nat) : Int) := by rw [IntWalk.i64_left, IntWalk.wrap64_in _ ⟨by omega, by omega⟩]; omega
      have hend : ∀ x, x = none → FirstE x = .returned (.tuple #[.int .i32 0, .int .i64 0, .bool false]) := fun x hx => by subst hx; rfl
      cases hb : (bl s)[q]? with
      | none =>
        rw [hb] at hF
        dsimp only at hF
        have HE : Hid (tailN ((bl s).drop (p + i)) 2 r 128 i = none) := by unfold Hid; rw [HQ.out]; exact tail_none hb hlt
        go_wp2_with (go_at_call 125; go_must (refine hF.mono ?_); rintro e w1 ⟨rfl, rfl⟩)
        go_ret3
        rw [← HT.out, HE.out]
        exact ⟨rfl, rfl⟩
      | some b =>
        rw [hb] at hF
        dsimp only at hF
        have HE : Hid (tailN ((bl s).drop (p + i)) 2 r 128 i = if b / 64 = 2 then tailN ((bl s).drop (q + 1)) 2 (r * 64 + b % 64) 128 (i + 1) else none) := by unfold Hid; rw [HQ.out]; exact tail_step hb hlt
        by_cases hb2 : b / 64 = 2
        · simp only [if_pos hb2] at hF
          rw [if_pos hb2] at HE
          obtain ⟨y, HY⟩ : ∃ y : Nat, Hid (b % 64 = y) := ⟨_, Lib.hid rfl⟩
          rw [HY.out] at hF HE
          have hy : y < 64 := by rw [← HY.out]; omega
          have hs6 : IntKind.i32.wrap ((r : Int) * 64) = ((r * 64 : Nat) : Int) := by rw [IntKind.wrap_i32]; omega
          have hor : bits .or .i32 ((r * 64 : Nat) : Int) (y : Int) = ((r * 64 + y : Nat) : Int) := by
            have h7 := i32_or6 (x := ((r * 64 : Nat) : Int)) (y := (y : Int)) (by omega) (by omega) (by omega) (by omega) (by omega)
            rw [h7]; omega
          obtain ⟨r1, HR1⟩ : ∃ r1 : Nat, Hid (r * 64 = r1) := ⟨_, Lib.hid rfl⟩
          obtain ⟨r2, HR2⟩ : ∃ r2 : Nat, Hid (r1 + y = r2) := ⟨_, Lib.hid rfl⟩
          rw [HR1.out] at hs6 hor HE
          rw [HR2.out] at hor HE
          go_wp2_with (go_at_call 125; go_must (refine hF.mono ?_); rintro e w1 ⟨rfl, rfl⟩)
          refine ⟨⟨i + 1, r2, by omega, by omega, rfl, rfl, rfl, rfl, ?_, ?_, Lib.hid trivial⟩, by simp [intOf]; omega⟩
          · have hB := HB.out
            have h5 := HR1.out
            have h6 := HR2.out
            unfold Hid
            rw [Nat.pow_succ]
            omega
          · unfold Hid
            rw [← HT.out, HE.out, show p + (i + 1) = q + 1 by have := HQ.out; omega]
        · simp only [if_neg hb2] at hF
          rw [if_neg hb2] at HE
          go_wp2_with (go_at_call 125; go_must (refine hF.mono ?_); rintro e w1 ⟨rfl, rfl⟩)
          go_ret3
          rw [← HT.out, HE.out]
          exact ⟨rfl, rfl⟩
    · obtain rfl : i = 2 := by omega
      have hP := point_ok r wr
      have HE := HT.out
      rw [tail_end] at HE
      by_cases hl : r < 128
      · have hli : (r : Int) < 128 := by omega
        rw [if_neg (fun hh => by omega)] at HE
        have HE := Lib.hid HE
        go_wp2_with (go_at_call 126; go_must (refine hP.mono ?_); rintro e w1 ⟨rfl, rfl⟩)
        go_ret3
        rw [← HE.out]
        exact ⟨rfl, rfl⟩
      · have hli : ¬ (r : Int) < 128 := by omega
        cases hpt : pointN r with
        | true =>
          rw [hpt] at hP
          rw [if_pos ⟨by omega, hpt⟩] at HE
          have HE := Lib.hid HE
          go_wp2_with (go_at_call 126; go_must (refine hP.mono ?_); rintro e w1 ⟨rfl, rfl⟩)
          go_ret3
          rw [← HE.out]
          exact ⟨rfl, rfl⟩
        | false =>
          rw [hpt] at hP
          rw [if_neg (fun hh => by rw [hpt] at hh; cases hh.2)] at HE
          have HE := Lib.hid HE
          go_wp2_with (go_at_call 126; go_must (refine hP.mono ?_); rintro e w1 ⟨rfl, rfl⟩)
          go_ret3
          rw [← HE.out]
          exact ⟨rfl, rfl⟩
end Go.Proofs.YtiemkfibpfndaaaGreatDoor

/- The code point at a place of a text: of several bytes. -/
namespace Go.Proofs.YtiemkfibpfndaaaGreatDoor
open Go.RowKit


set_option maxRecDepth 100000 in
theorem first_three (s : ByteArray) (p c : Nat) (h : p < s.size) (hs : s.size ≤ 1152921504606846976) (hc : (s[p]'h).toNat = c) (hd : c / 16 = 14) (w : World) :
    Calls Tryz.prog 93 #[.string s, .int .i64 (p : Int)] w fun e w' => e = FirstE (tailN ((bl s).drop (p + 1)) 3 (c % 16) 2048 1) ∧ w' = w := by
  have h0 : (0 : Int) ≤ (p : Int) := by omega
  have hi : ¬ (p : Int) ≥ (s.size : Int) := by omega
  have h9 : ¬ (c : Int) < 128 := by omega
  have hc1 : c < 256 := by rw [← hc]; exact UInt8.toNat_lt _
  obtain ⟨a1, a2, a3⟩ := and_cls c hc1
  have b0 : ¬ bits .and .u8 (c : Int) 224 = 192 := fun e => by have := a1.1 e; omega
  have b1 := a2.2 hd
  obtain ⟨r0, HR0⟩ : ∃ r0 : Nat, Hid (c % 16 = r0) := ⟨_, Lib.hid rfl⟩
  have i1 : (c : Int) % 16 = (r0 : Int) := by rw [← HR0.out]; omega
  have i2 : IntKind.i32.wrap (r0 : Int) = (r0 : Int) := by rw [IntKind.wrap_i32, ← HR0.out]; omega
  have HB0 : Hid (r0 < 64 ^ 1) := by unfold Hid; rw [← HR0.out]; omega
  have HP := Lib.hid h
  have HS := Lib.hid hs
  rw [HR0.out]
  clear a1 a2 a3
  go_enter Tryz.func93, Tryz.ntmps93
  go_wp2_with (fail)
  go_loopw [4, 5, 6, 9, 10, 11] (fun u4 u5 u6 u9 u10 u11 wr => ∃ i r : Nat, 1 ≤ i ∧ i ≤ 3 ∧ u4 = .int .i32 (r : Int) ∧ u5 = .int .i64 3 ∧ u6 = .bool false ∧ u9 = .int .i64 (i : Int) ∧ Hid (r < 64 ^ i) ∧ Hid (tailN ((bl s).drop (p + i)) 3 r 2048 i = tailN ((bl s).drop (p + 1)) 3 r0 2048 1) ∧ Hid (wr = w)) (fun _ _ _ u9 _ _ _ => 3 - (intOf u9).toNat)
  case atStart => exact ⟨1, r0, by decide, by decide, rfl, rfl, rfl, rfl, HB0, Lib.hid rfl, Lib.hid rfl⟩
  case round =>
    obtain ⟨i, r, h1, h2, rfl, rfl, rfl, rfl, HB, HT, HW⟩ := hrel
    have HW2 := HW.out
    subst HW2
    have hr : r < 16777216 := by
      have := HB.out
      have h3 : 64 ^ i ≤ 64 ^ 4 := Nat.pow_le_pow_right (by decide) (by omega)
      omega
    by_cases hlt : i < 3
    · have hlt2 : (i : Int) < 3 := by omega
      obtain ⟨q, HQ⟩ : ∃ q : Nat, Hid (p + i = q) := ⟨_, Lib.hid rfl⟩
      have hq1 : IntKind.i64.wrap ((p : Int) + (i : Int)) = (q : Int) := by have := HQ.out; rw [IntWalk.i64_left, IntWalk.wrap64_in _ ⟨by omega, by omega⟩]; omega
      have hF := follow_ok s q wr
      have hi3 : IntKind.i64.wrap ((i : Int) + 1) = ((i + 1 : Nat) : Int) := by rw [IntWalk.i64_left, IntWalk.wrap64_in _ ⟨by omega, by omega⟩]; omega
      have hend : ∀ x, x = none → FirstE x = .returned (.tuple #[.int .i32 0, .int .i64 0, .bool false]) := fun x hx => by subst hx; rfl
      cases hb : (bl s)[q]? with
      | none =>
        rw [hb] at hF
        dsimp only at hF
        have HE : Hid (tailN ((bl s).drop (p + i)) 3 r 2048 i = none) := by unfold Hid; rw [HQ.out]; exact tail_none hb hlt
        go_wp2_with (go_at_call 125; go_must (refine hF.mono ?_); rintro e w1 ⟨rfl, rfl⟩)
        go_ret3
        rw [← HT.out, HE.out]
        exact ⟨rfl, rfl⟩
      | some b =>
        rw [hb] at hF
        dsimp only at hF
        have HE : Hid (tailN ((bl s).drop (p + i)) 3 r 2048 i = if b / 64 = 2 then tailN ((bl s).drop (q + 1)) 3 (r * 64 + b % 64) 2048 (i + 1) else none) := by unfold Hid; rw [HQ.out]; exact tail_step hb hlt
        by_cases hb2 : b / 64 = 2
        · simp only [if_pos hb2] at hF
          rw [if_pos hb2] at HE
          obtain ⟨y, HY⟩ : ∃ y : Nat, Hid (b % 64 = y) := ⟨_, Lib.hid rfl⟩
          rw [HY.out] at hF HE
          have hy : y < 64 := by rw [← HY.out]; omega
          have hs6 : IntKind.i32.wrap ((r : Int) * 64) = ((r * 64 : Nat) : Int) := by rw [IntKind.wrap_i32]; omega
          have hor : bits .or .i32 ((r * 64 : Nat) : Int) (y : Int) = ((r * 64 + y : Nat) : Int) := by
            have h7 := i32_or6 (x := ((r * 64 : Nat) : Int)) (y := (y : Int)) (by omega) (by omega) (by omega) (by omega) (by omega)
            rw [h7]; omega
          obtain ⟨r1, HR1⟩ : ∃ r1 : Nat, Hid (r * 64 = r1) := ⟨_, Lib.hid rfl⟩
          obtain ⟨r2, HR2⟩ : ∃ r2 : Nat, Hid (r1 + y = r2) := ⟨_, Lib.hid rfl⟩
          rw [HR1.out] at hs6 hor HE
          rw [HR2.out] at hor HE
          go_wp2_with (go_at_call 125; go_must (refine hF.mono ?_); rintro e w1 ⟨rfl, rfl⟩)
          refine ⟨⟨i + 1, r2, by omega, by omega, rfl, rfl, rfl, rfl, ?_, ?_, Lib.hid trivial⟩, by simp [intOf]; omega⟩
          · have hB := HB.out
            have h5 := HR1.out
            have h6 := HR2.out
            unfold Hid
            rw [Nat.pow_succ]
            omega
          · unfold Hid
            rw [← HT.out, HE.out, show p + (i + 1) = q + 1 by have := HQ.out; omega]
        · simp only [if_neg hb2] at hF
          rw [if_neg hb2] at HE
          go_wp2_with (go_at_call 125; go_must (refine hF.mono ?_); rintro e w1 ⟨rfl, rfl⟩)
          go_ret3
          rw [← HT.out, HE.out]
          exact ⟨rfl, rfl⟩
    · obtain rfl : i = 3 := by omega
      have hP := point_ok r wr
      have HE := HT.out
      rw [tail_end] at HE
      by_cases hl : r < 2048
      · have hli : (r : Int) < 2048 := by omega
        rw [if_neg (fun hh => by omega)] at HE
        have HE := Lib.hid HE
        go_wp2_with (go_at_call 126; go_must (refine hP.mono ?_); rintro e w1 ⟨rfl, rfl⟩)
        go_ret3
        rw [← HE.out]
        exact ⟨rfl, rfl⟩
      · have hli : ¬ (r : Int) < 2048 := by omega
        cases hpt : pointN r with
        | true =>
          rw [hpt] at hP
          rw [if_pos ⟨by omega, hpt⟩] at HE
          have HE := Lib.hid HE
          go_wp2_with (go_at_call 126; go_must (refine hP.mono ?_); rintro e w1 ⟨rfl, rfl⟩)
          go_ret3
          rw [← HE.out]
          exact ⟨rfl, rfl⟩
        | false =>
          rw [hpt] at hP
          rw [if_neg (fun hh => by rw [hpt] at hh; cases hh.2)] at HE
          have HE := Lib.hid HE
          go_wp2_with (go_at_call 126; go_must (refine hP.mono ?_); rintro e w1 ⟨rfl, rfl⟩)
          go_ret3
          rw [← HE.out]
          exact ⟨rfl, rfl⟩
end Go.Proofs.YtiemkfibpfndaaaGreatDoor

/- The code point at a place of a text: of several bytes. -/
namespace Go.Proofs.YtiemkfibpfndaaaGreatDoor
open Go.RowKit


set_option maxRecDepth 100000 in
theorem first_four (s : ByteArray) (p c : Nat) (h : p < s.size) (hs : s.size ≤ 1152921504606846976) (hc : (s[p]'h).toNat = c) (hd : c / 8 = 30) (w : World) :
    Calls Tryz.prog 93 #[.string s, .int .i64 (p : Int)] w fun e w' => e = FirstE (tailN ((bl s).drop (p + 1)) 4 (c % 8) 65536 1) ∧ w' = w := by
  have h0 : (0 : Int) ≤ (p : Int) := by omega
  have hi : ¬ (p : Int) ≥ (s.size : Int) := by omega
  have h9 : ¬ (c : Int) < 128 := by omega
  have hc1 : c < 256 := by rw [← hc]; exact UInt8.toNat_lt _
  obtain ⟨a1, a2, a3⟩ := and_cls c hc1
  have b0 : ¬ bits .and .u8 (c : Int) 224 = 192 := fun e => by have := a1.1 e; omega
  have b1 : ¬ bits .and .u8 (c : Int) 240 = 224 := fun e => by have := a2.1 e; omega
  have b2 := a3.2 hd
  obtain ⟨r0, HR0⟩ : ∃ r0 : Nat, Hid (c % 8 = r0) := ⟨_, Lib.hid rfl⟩
  have i1 : (c : Int) % 8 = (r0 : Int) := by rw [← HR0.out]; omega
  have i2 : IntKind.i32.wrap (r0 : Int) = (r0 : Int) := by rw [IntKind.wrap_i32, ← HR0.out]; omega
  have HB0 : Hid (r0 < 64 ^ 1) := by unfold Hid; rw [← HR0.out]; omega
  have HP := Lib.hid h
  have HS := Lib.hid hs
  rw [HR0.out]
  clear a1 a2 a3
  go_enter Tryz.func93, Tryz.ntmps93
  go_wp2_with (fail)
  go_loopw [4, 5, 6, 9, 10, 11] (fun u4 u5 u6 u9 u10 u11 wr => ∃ i r : Nat, 1 ≤ i ∧ i ≤ 4 ∧ u4 = .int .i32 (r : Int) ∧ u5 = .int .i64 4 ∧ u6 = .bool false ∧ u9 = .int .i64 (i : Int) ∧ Hid (r < 64 ^ i) ∧ Hid (tailN ((bl s).drop (p + i)) 4 r 65536 i = tailN ((bl s).drop (p + 1)) 4 r0 65536 1) ∧ Hid (wr = w)) (fun _ _ _ u9 _ _ _ => 4 - (intOf u9).toNat)
  case atStart => exact ⟨1, r0, by decide, by decide, rfl, rfl, rfl, rfl, HB0, Lib.hid rfl, Lib.hid rfl⟩
  case round =>
    obtain ⟨i, r, h1, h2, rfl, rfl, rfl, rfl, HB, HT, HW⟩ := hrel
    have HW2 := HW.out
    subst HW2
    have hr : r < 16777216 := by
      have := HB.out
      have h3 : 64 ^ i ≤ 64 ^ 4 := Nat.pow_le_pow_right (by decide) (by omega)
      omega
    by_cases hlt : i < 4
    · have hlt2 : (i : Int) < 4 := by omega
      obtain ⟨q, HQ⟩ : ∃ q : Nat, Hid (p + i = q) := ⟨_, Lib.hid rfl⟩
      have hq1 : IntKind.i64.wrap ((p : Int) + (i : Int)) = (q : Int) := by have := HQ.out; rw [IntWalk.i64_left, IntWalk.wrap64_in _ ⟨by omega, by omega⟩]; omega
      have hF := follow_ok s q wr
      have hi3 : IntKind.i64.wrap ((i : Int) + 1) = ((i + 1 : Nat) : Int) := by rw [IntWalk.i64_left, IntWalk.wrap64_in _ ⟨by omega, by omega⟩]; omega
      have hend : ∀ x, x = none → FirstE x = .returned (.tuple #[.int .i32 0, .int .i64 0, .bool false]) := fun x hx => by subst hx; rfl
      cases hb : (bl s)[q]? with
      | none =>
        rw [hb] at hF
        dsimp only at hF
        have HE : Hid (tailN ((bl s).drop (p + i)) 4 r 65536 i = none) := by unfold Hid; rw [HQ.out]; exact tail_none hb hlt
        go_wp2_with (go_at_call 125; go_must (refine hF.mono ?_); rintro e w1 ⟨rfl, rfl⟩)
        go_ret3
        rw [← HT.out, HE.out]
        exact ⟨rfl, rfl⟩
      | some b =>
        rw [hb] at hF
        dsimp only at hF
        have HE : Hid (tailN ((bl s).drop (p + i)) 4 r 65536 i = if b / 64 = 2 then tailN ((bl s).drop (q + 1)) 4 (r * 64 + b % 64) 65536 (i + 1) else none) := by unfold Hid; rw [HQ.out]; exact tail_step hb hlt
        by_cases hb2 : b / 64 = 2
        · simp only [if_pos hb2] at hF
          rw [if_pos hb2] at HE
          obtain ⟨y, HY⟩ : ∃ y : Nat, Hid (b % 64 = y) := ⟨_, Lib.hid rfl⟩
          rw [HY.out] at hF HE
          have hy : y < 64 := by rw [← HY.out]; omega
          have hs6 : IntKind.i32.wrap ((r : Int) * 64) = ((r * 64 : Nat) : Int) := by rw [IntKind.wrap_i32]; omega
          have hor : bits .or .i32 ((r * 64 : Nat) : Int) (y : Int) = ((r * 64 + y : Nat) : Int) := by
            have h7 := i32_or6 (x := ((r * 64 : Nat) : Int)) (y := (y : Int)) (by omega) (by omega) (by omega) (by omega) (by omega)
            rw [h7]; omega
          obtain ⟨r1, HR1⟩ : ∃ r1 : Nat, Hid (r * 64 = r1) := ⟨_, Lib.hid rfl⟩
          obtain ⟨r2, HR2⟩ : ∃ r2 : Nat, Hid (r1 + y = r2) := ⟨_, Lib.hid rfl⟩
          rw [HR1.out] at hs6 hor HE
          rw [HR2.out] at hor HE
          go_wp2_with (go_at_call 125; go_must (refine hF.mono ?_); rintro e w1 ⟨rfl, rfl⟩)
          refine ⟨⟨i + 1, r2, by omega, by omega, rfl, rfl, rfl, rfl, ?_, ?_, Lib.hid trivial⟩, by simp [intOf]; omega⟩
          · have hB := HB.out
            have h5 := HR1.out
            have h6 := HR2.out
            unfold Hid
            rw [Nat.pow_succ]
            omega
          · unfold Hid
            rw [← HT.out, HE.out, show p + (i + 1) = q + 1 by have := HQ.out; omega]
        · simp only [if_neg hb2] at hF
          rw [if_neg hb2] at HE
          go_wp2_with (go_at_call 125; go_must (refine hF.mono ?_); rintro e w1 ⟨rfl, rfl⟩)
          go_ret3
          rw [← HT.out, HE.out]
          exact ⟨rfl, rfl⟩
    · obtain rfl : i = 4 := by omega
      have hP := point_ok r wr
      have HE := HT.out
      rw [tail_end] at HE
      by_cases hl : r < 65536
      · have hli : (r : Int) < 65536 := by omega
        rw [if_neg (fun hh => by omega)] at HE
        have HE := Lib.hid HE
        go_wp2_with (go_at_call 126; go_must (refine hP.mono ?_); rintro e w1 ⟨rfl, rfl⟩)
        go_ret3
        rw [← HE.out]
        exact ⟨rfl, rfl⟩
      · have hli : ¬ (r : Int) < 65536 := by omega
        cases hpt : pointN r with
        | true =>
          rw [hpt] at hP
          rw [if_pos ⟨by omega, hpt⟩] at HE
          have HE := Lib.hid HE
          go_wp2_with (go_at_call 126; go_must (refine hP.mono ?_); rintro e w1 ⟨rfl, rfl⟩)
          go_ret3
          rw [← HE.out]
          exact ⟨rfl, rfl⟩
        | false =>
          rw [hpt] at hP
          rw [if_neg (fun hh => by rw [hpt] at hh; cases hh.2)] at HE
          have HE := Lib.hid HE
          go_wp2_with (go_at_call 126; go_must (refine hP.mono ?_); rintro e w1 ⟨rfl, rfl⟩)
          go_ret3
          rw [← HE.out]
          exact ⟨rfl, rfl⟩
end Go.Proofs.YtiemkfibpfndaaaGreatDoor

/- utf.First. -/
namespace Go.Proofs.YtiemkfibpfndaaaGreatDoor
open Go.RowKit

set_option maxRecDepth 100000 in
theorem first_bad (s : ByteArray) (p c : Nat) (h : p < s.size) (hc : (s[p]'h).toNat = c) (h8 : 128 ≤ c) (h2 : ¬ c / 32 = 6) (h3 : ¬ c / 16 = 14) (h4 : ¬ c / 8 = 30) (w : World) :
    Calls Tryz.prog 93 #[.string s, .int .i64 (p : Int)] w fun e w' => e = FirstE none ∧ w' = w := by
  have h0 : (0 : Int) ≤ (p : Int) := by omega
  have hi : ¬ (p : Int) ≥ (s.size : Int) := by omega
  have h9 : ¬ (c : Int) < 128 := by omega
  have hc1 : c < 256 := by rw [← hc]; exact UInt8.toNat_lt _
  obtain ⟨a1, a2, a3⟩ := and_cls c hc1
  have b0 : ¬ bits .and .u8 (c : Int) 224 = 192 := fun e => h2 (a1.1 e)
  have b1 : ¬ bits .and .u8 (c : Int) 240 = 224 := fun e => h3 (a2.1 e)
  have b2 : ¬ bits .and .u8 (c : Int) 248 = 240 := fun e => h4 (a3.1 e)
  clear a1 a2 a3 h2 h3 h4
  go_enter Tryz.func93, Tryz.ntmps93
  go_wp2
  go_ret3
  exact ⟨rfl, rfl⟩
theorem utfFirst_ok (s : ByteArray) (p : Nat) (hs : s.size ≤ 1152921504606846976) (hp : p ≤ 1152921504606846976) (w : World) :
    Calls Tryz.prog 93 #[.string s, .int .i64 (p : Int)] w fun e w' => e = FirstE (utfN ((bl s).drop p)) ∧ w' = w := by
  have hl : (bl s).length = s.size := by simp [bl]
  by_cases h : p < s.size
  · obtain ⟨c, hc⟩ : ∃ c, (s[p]'h).toNat = c := ⟨_, rfl⟩
    have hb := byte_at h
    rw [hc] at hb
    obtain ⟨hq, hg⟩ := List.getElem?_eq_some_iff.1 hb
    rw [List.drop_eq_getElem_cons hq, hg]
    by_cases h8 : c < 128
    · rw [show utfN (c :: (bl s).drop (p + 1)) = some (c, 1) by simp only [utfN]; rw [if_pos h8]]
      exact first_one s p c h hc h8 w
    · by_cases h2 : c / 32 = 6
      · rw [show utfN (c :: (bl s).drop (p + 1)) = tailN ((bl s).drop (p + 1)) 2 (c % 32) 128 1 by simp only [utfN]; rw [if_neg h8, if_pos h2]; rfl]
        exact first_two s p c h hs hc h2 w
      · by_cases h3 : c / 16 = 14
        · rw [show utfN (c :: (bl s).drop (p + 1)) = tailN ((bl s).drop (p + 1)) 3 (c % 16) 2048 1 by simp only [utfN]; rw [if_neg h8, if_neg h2, if_pos h3]; rfl]
          exact first_three s p c h hs hc h3 w
        · by_cases h4 : c / 8 = 30
          · rw [show utfN (c :: (bl s).drop (p + 1)) = tailN ((bl s).drop (p + 1)) 4 (c % 8) 65536 1 by simp only [utfN]; rw [if_neg h8, if_neg h2, if_neg h3, if_pos h4]; rfl]
            exact first_four s p c h hs hc h4 w
          · rw [show utfN (c :: (bl s).drop (p + 1)) = none by simp only [utfN]; rw [if_neg h8, if_neg h2, if_neg h3, if_neg h4]]
            exact first_bad s p c h hc (by omega) h2 h3 h4 w
  · rw [List.drop_eq_nil_of_le (by omega)]
    exact first_out s p (by omega) w (by omega)
end Go.Proofs.YtiemkfibpfndaaaGreatDoor

/- packread.within: the first wrong byte of an encoding. -/
namespace Go.Proofs.YtiemkfibpfndaaaGreatDoor
open Go.RowKit

def tailL : Nat → List Nat
  | 0 => []
  | 1 => [128]
  | _ => [128, 128]
def goodJ (l : List Nat) (k : Nat) : Nat → Bool
  | 0 => false
  | j + 1 => goodJ l k j || (utfK (l ++ tailL j) == some k)
theorem goodJ_all (l : List Nat) (k : Nat) : goodJ l k 3 = goodN l k := by simp [goodJ, goodN, tailL]
theorem bl_app (a b : ByteArray) : bl (a ++ b) = bl a ++ bl b := by simp [bl]
theorem bl_take (s : ByteArray) (n : Nat) : bl (s.extract 0 n) = (bl s).take n := by simp [bl]

theorem index3 (w : World) (a b c : ByteArray) : (Instr.index 228 (.agg #[.string a, .string b, .string c]) (.int .i64 0)).run Tryz.prog w = .ok (.string a) w ∧ (Instr.index 228 (.agg #[.string a, .string b, .string c]) (.int .i64 1)).run Tryz.prog w = .ok (.string b) w ∧ (Instr.index 228 (.agg #[.string a, .string b, .string c]) (.int .i64 2)).run Tryz.prog w = .ok (.string c) w := by
  refine ⟨?_, ?_, ?_⟩ <;> simp [Instr.index, run_underlying Tryz.underlying228, asIntOf, go_sem]
theorem index4 (w : World) (a b c d : ByteArray) : (Instr.index 212 (.agg #[.string a, .string b, .string c, .string d]) (.int .i64 0)).run Tryz.prog w = .ok (.string a) w ∧ (Instr.index 212 (.agg #[.string a, .string b, .string c, .string d]) (.int .i64 1)).run Tryz.prog w = .ok (.string b) w ∧ (Instr.index 212 (.agg #[.string a, .string b, .string c, .string d]) (.int .i64 2)).run Tryz.prog w = .ok (.string c) w ∧ (Instr.index 212 (.agg #[.string a, .string b, .string c, .string d]) (.int .i64 3)).run Tryz.prog w = .ok (.string d) w := by
  refine ⟨?_, ?_, ?_, ?_⟩ <;> simp [Instr.index, run_underlying Tryz.underlying212, asIntOf, go_sem]
/-- what 'first' and 'within' answer -/
def WithinE (x : Option Nat) : Ending := match x with
  | some i => .returned (.tuple #[.int .i64 (i : Int), .bool true])
  | none => .returned (.tuple #[.int .i64 0, .bool false])
theorem size_tail (s t : ByteArray) (n : Nat) (hs : s.size ≤ 1152921504606846970) (ht : t.size ≤ 3) : (s.extract 0 n ++ t).size ≤ 1152921504606846976 := by
  rw [ByteArray.size_append, ByteArray.size_extract]; omega
set_option maxRecDepth 100000 in
theorem within_ok (s : ByteArray) (k : Nat) (hs : s.size ≤ 1152921504606846970) (hk : k ≤ 4) (w : World) :
    Calls Tryz.prog 127 #[.string s, .int .i64 (k : Int)] w fun e w' => e = WithinE (withinN (bl s) k 4 1) ∧ Keep nob w w' := by
  have c0 : (w.alloc (.cells #[.string ⟨#[]⟩, .string ⟨#[128]⟩, .string ⟨#[128, 128]⟩] 228)).cell? ⟨w.heap.size, 0, none⟩ = some (.string ⟨#[]⟩) := by simp
  have c1 : (w.alloc (.cells #[.string ⟨#[]⟩, .string ⟨#[128]⟩, .string ⟨#[128, 128]⟩] 228)).cell? ⟨w.heap.size, 1, none⟩ = some (.string ⟨#[128]⟩) := by simp
  have c2 : (w.alloc (.cells #[.string ⟨#[]⟩, .string ⟨#[128]⟩, .string ⟨#[128, 128]⟩] 228)).cell? ⟨w.heap.size, 2, none⟩ = some (.string ⟨#[128, 128]⟩) := by simp
  have HK0 : Hid (Keep nob w (w.alloc (.cells #[.string ⟨#[]⟩, .string ⟨#[128]⟩, .string ⟨#[128, 128]⟩] 228))) := (Keep.refl _ _).alloc _
  obtain ⟨w0, HW0⟩ : ∃ w0, Hid (w.alloc (.cells #[.string ⟨#[]⟩, .string ⟨#[128]⟩, .string ⟨#[128, 128]⟩] 228) = w0) := ⟨_, Lib.hid rfl⟩
  obtain ⟨b6, HB6⟩ : ∃ b6, Hid (w.heap.size = b6) := ⟨_, Lib.hid rfl⟩
  rw [HW0.out] at c0 c1 c2 HK0
  rw [HB6.out] at c0 c1 c2
  have HS := Lib.hid hs
  go_enter Tryz.func127, Tryz.ntmps127
  go_upto_region 2 with (fail)
  rw [HW0.out, HB6.out]
  go_wp2_with (fail)
  go_loopw [7] (fun u7 wr => ∃ i : Nat, 1 ≤ i ∧ i ≤ 5 ∧ u7 = .int .i64 (i : Int) ∧ Hid (withinN (bl s) k 4 1 = withinN (bl s) k (5 - i) i) ∧ Hid (wr = w0)) (fun u7 _ => 5 - (intOf u7).toNat)
  case atStart => exact ⟨1, by decide, by decide, rfl, Lib.hid rfl, Lib.hid rfl⟩
  case round =>
    obtain ⟨i, h1, h5, rfl, HT, HW⟩ := hrel
    have HW2 := HW.out
    subst HW2
    by_cases hlt : i < k ∧ i < s.size
    · obtain ⟨hlt1, hlt2⟩ := hlt
      have hl1 : (i : Int) < (k : Int) := by omega
      have hl2 : (i : Int) < (s.size : Int) := by omega
      have hw1 : IntKind.i64.wrap ((i : Int) + 1) = ((i + 1 : Nat) : Int) := by rw [IntWalk.i64_left, IntWalk.wrap64_in _ ⟨by omega, by omega⟩]; omega
      have hw2 : ((i + 1 : Nat) : Int) ≤ (s.size : Int) := by omega
      have hw3 : (0 : Int) ≤ ((i + 1 : Nat) : Int) := by omega
      obtain ⟨wo, rfl⟩ : ∃ wo : World, wo = wr := ⟨_, rfl⟩
      go_wp2_with (fail)
      go_loopw [8, 27] (fun u8 u27 wv => ∃ j : Nat, j ≤ 3 ∧ u27 = .int .i64 (j : Int) ∧ u8 = .bool (goodJ ((bl s).take (i + 1)) k j) ∧ Hid (wv = wo)) (fun _ u27 _ => 3 - (intOf u27).toNat)
      case atStart => exact ⟨0, by decide, rfl, rfl, Lib.hid rfl⟩
      case round =>
        obtain ⟨j, hj, rfl, rfl, HV⟩ := hrel
        have HV2 := HV.out
        subst HV2
        by_cases hj3 : j = 3
        · subst hj3
          have HGA := Lib.hid (goodJ_all ((bl s).take (i + 1)) k)
          have HWI : Hid (withinN (bl s) k (5 - i) i = if goodN ((bl s).take (i + 1)) k then withinN (bl s) k (5 - (i + 1)) (i + 1) else some i) := by
            unfold Hid
            rw [show 5 - i = (5 - (i + 1)) + 1 by omega, withinN, if_pos ⟨hlt1, by rw [show (bl s).length = s.size by simp [bl]]; exact hlt2⟩]
          obtain ⟨gd, HGD⟩ : ∃ gd, Hid (goodJ ((bl s).take (i + 1)) k 3 = gd) := ⟨_, Lib.hid rfl⟩
          rw [HGD.out] at HGA ⊢
          rw [← HGA.out] at HWI
          cases gd
          · go_wp2_with (fail)
            go_ret2
            rw [HT.out, HWI.out]
            exact ⟨rfl, HK0.out⟩
          · go_wp2_with (fail)
            refine ⟨⟨i + 1, by omega, by omega, rfl, ?_, Lib.hid trivial⟩, by simp [intOf]; omega⟩
            unfold Hid
            rw [HT.out, HWI.out]
            rfl
        rcases (show j = 0 ∨ j = 1 ∨ j = 2 by omega) with rfl | rfl | rfl
        · have hF := fun wv => utfFirst_ok (s.extract 0 (i + 1) ++ ⟨#[]⟩) 0 (size_tail s _ _ HS.out (by decide)) (by decide) wv
          have hbl : bl (s.extract 0 (i + 1) ++ ⟨#[]⟩) = (bl s).take (i + 1) ++ tailL 0 := by rw [bl_app, bl_take]; rfl
          rw [hbl, List.drop_zero] at hF
          have HGJ : Hid (goodJ ((bl s).take (i + 1)) k (0 + 1) = (goodJ ((bl s).take (i + 1)) k 0 || (utfK ((bl s).take (i + 1) ++ tailL 0) == some k))) := Lib.hid rfl
          obtain ⟨gd, HGD⟩ : ∃ gd, Hid (goodJ ((bl s).take (i + 1)) k 0 = gd) := ⟨_, Lib.hid rfl⟩
          rw [HGD.out] at HGJ ⊢
          obtain ⟨x, HX⟩ : ∃ x, Hid (utfN ((bl s).take (i + 1) ++ tailL 0) = x) := ⟨_, Lib.hid rfl⟩
          rw [HX.out] at hF
          have HK : Hid (utfK ((bl s).take (i + 1) ++ tailL 0) = x.map (·.2)) := by unfold Hid; rw [utfK, HX.out]
          have hx0 := fun wv : World => (index3 wv ⟨#[]⟩ ⟨#[128]⟩ ⟨#[128, 128]⟩).1
          simp only [Int.natCast_zero] at hF
          rw [HK.out] at HGJ
          cases x with
          | none =>
            simp only [FirstE] at hF
            have HGJ2 : Hid (goodJ ((bl s).take (i + 1)) k (0 + 1) = gd) := by unfold Hid; rw [HGJ.out]; simp
            cases gd
            · go_wp2_with (go_at_call 93; go_must (refine (hF _).mono ?_); rintro e w1 ⟨rfl, rfl⟩)
              exact ⟨⟨0 + 1, by decide, rfl, by rw [HGJ2.out], Lib.hid trivial⟩, by simp [intOf]⟩
            · go_wp2_with (go_at_call 93; go_must (refine (hF _).mono ?_); rintro e w1 ⟨rfl, rfl⟩)
              exact ⟨⟨0 + 1, by decide, rfl, by rw [HGJ2.out], Lib.hid trivial⟩, by simp [intOf]⟩
          | some x =>
            obtain ⟨r, kk⟩ := x
            simp only [FirstE] at hF
            by_cases hkk : kk = k
            · subst hkk
              have HGJ2 : Hid (goodJ ((bl s).take (i + 1)) kk (0 + 1) = true) := by unfold Hid; rw [HGJ.out]; simp
              cases gd
              · go_wp2_with (go_at_call 93; go_must (refine (hF _).mono ?_); rintro e w1 ⟨rfl, rfl⟩)
                exact ⟨⟨0 + 1, by decide, rfl, by rw [HGJ2.out], Lib.hid trivial⟩, by simp [intOf]⟩
              · go_wp2_with (go_at_call 93; go_must (refine (hF _).mono ?_); rintro e w1 ⟨rfl, rfl⟩)
                exact ⟨⟨0 + 1, by decide, rfl, by rw [HGJ2.out], Lib.hid trivial⟩, by simp [intOf]⟩
            · have hkk2 : ¬ (kk : Int) = (k : Int) := by omega
              have HGJ2 : Hid (goodJ ((bl s).take (i + 1)) k (0 + 1) = gd) := by unfold Hid; rw [HGJ.out]; simp [hkk]
              cases gd
              · go_wp2_with (go_at_call 93; go_must (refine (hF _).mono ?_); rintro e w1 ⟨rfl, rfl⟩)
                exact ⟨⟨0 + 1, by decide, rfl, by rw [HGJ2.out]; simp [hkk2], Lib.hid trivial⟩, by simp [intOf]⟩
              · go_wp2_with (go_at_call 93; go_must (refine (hF _).mono ?_); rintro e w1 ⟨rfl, rfl⟩)
                exact ⟨⟨0 + 1, by decide, rfl, by rw [HGJ2.out], Lib.hid trivial⟩, by simp [intOf]⟩
        · have hF := fun wv => utfFirst_ok (s.extract 0 (i + 1) ++ ⟨#[128]⟩) 0 (size_tail s _ _ HS.out (by decide)) (by decide) wv
          have hbl : bl (s.extract 0 (i + 1) ++ ⟨#[128]⟩) = (bl s).take (i + 1) ++ tailL 1 := by rw [bl_app, bl_take]; rfl
          rw [hbl, List.drop_zero] at hF
          have HGJ : Hid (goodJ ((bl s).take (i + 1)) k (1 + 1) = (goodJ ((bl s).take (i + 1)) k 1 || (utfK ((bl s).take (i + 1) ++ tailL 1) == some k))) := Lib.hid rfl
          obtain ⟨gd, HGD⟩ : ∃ gd, Hid (goodJ ((bl s).take (i + 1)) k 1 = gd) := ⟨_, Lib.hid rfl⟩
          rw [HGD.out] at HGJ ⊢
          obtain ⟨x, HX⟩ : ∃ x, Hid (utfN ((bl s).take (i + 1) ++ tailL 1) = x) := ⟨_, Lib.hid rfl⟩
          rw [HX.out] at hF
          have HK : Hid (utfK ((bl s).take (i + 1) ++ tailL 1) = x.map (·.2)) := by unfold Hid; rw [utfK, HX.out]
          have hx0 := fun wv : World => (index3 wv ⟨#[]⟩ ⟨#[128]⟩ ⟨#[128, 128]⟩).2.1
          simp only [Int.natCast_zero] at hF
          rw [HK.out] at HGJ
          cases x with
          | none =>
            simp only [FirstE] at hF
            have HGJ2 : Hid (goodJ ((bl s).take (i + 1)) k (1 + 1) = gd) := by unfold Hid; rw [HGJ.out]; simp
            cases gd
            · go_wp2_with (go_at_call 93; go_must (refine (hF _).mono ?_); rintro e w1 ⟨rfl, rfl⟩)
              exact ⟨⟨1 + 1, by decide, rfl, by rw [HGJ2.out], Lib.hid trivial⟩, by simp [intOf]⟩
            · go_wp2_with (go_at_call 93; go_must (refine (hF _).mono ?_); rintro e w1 ⟨rfl, rfl⟩)
              exact ⟨⟨1 + 1, by decide, rfl, by rw [HGJ2.out], Lib.hid trivial⟩, by simp [intOf]⟩
          | some x =>
            obtain ⟨r, kk⟩ := x
            simp only [FirstE] at hF
            by_cases hkk : kk = k
            · subst hkk
              have HGJ2 : Hid (goodJ ((bl s).take (i + 1)) kk (1 + 1) = true) := by unfold Hid; rw [HGJ.out]; simp
              cases gd
              · go_wp2_with (go_at_call 93; go_must (refine (hF _).mono ?_); rintro e w1 ⟨rfl, rfl⟩)
                exact ⟨⟨1 + 1, by decide, rfl, by rw [HGJ2.out], Lib.hid trivial⟩, by simp [intOf]⟩
              · go_wp2_with (go_at_call 93; go_must (refine (hF _).mono ?_); rintro e w1 ⟨rfl, rfl⟩)
                exact ⟨⟨1 + 1, by decide, rfl, by rw [HGJ2.out], Lib.hid trivial⟩, by simp [intOf]⟩
            · have hkk2 : ¬ (kk : Int) = (k : Int) := by omega
              have HGJ2 : Hid (goodJ ((bl s).take (i + 1)) k (1 + 1) = gd) := by unfold Hid; rw [HGJ.out]; simp [hkk]
              cases gd
              · go_wp2_with (go_at_call 93; go_must (refine (hF _).mono ?_); rintro e w1 ⟨rfl, rfl⟩)
                exact ⟨⟨1 + 1, by decide, rfl, by rw [HGJ2.out]; simp [hkk2], Lib.hid trivial⟩, by simp [intOf]⟩
              · go_wp2_with (go_at_call 93; go_must (refine (hF _).mono ?_); rintro e w1 ⟨rfl, rfl⟩)
                exact ⟨⟨1 + 1, by decide, rfl, by rw [HGJ2.out], Lib.hid trivial⟩, by simp [intOf]⟩
        · have hF := fun wv => utfFirst_ok (s.extract 0 (i + 1) ++ ⟨#[128, 128]⟩) 0 (size_tail s _ _ HS.out (by decide)) (by decide) wv
          have hbl : bl (s.extract 0 (i + 1) ++ ⟨#[128, 128]⟩) = (bl s).take (i + 1) ++ tailL 2 := by rw [bl_app, bl_take]; rfl
          rw [hbl, List.drop_zero] at hF
          have HGJ : Hid (goodJ ((bl s).take (i + 1)) k (2 + 1) = (goodJ ((bl s).take (i + 1)) k 2 || (utfK ((bl s).take (i + 1) ++ tailL 2) == some k))) := Lib.hid rfl
          obtain ⟨gd, HGD⟩ : ∃ gd, Hid (goodJ ((bl s).take (i + 1)) k 2 = gd) := ⟨_, Lib.hid rfl⟩
          rw [HGD.out] at HGJ ⊢
          obtain ⟨x, HX⟩ : ∃ x, Hid (utfN ((bl s).take (i + 1) ++ tailL 2) = x) := ⟨_, Lib.hid rfl⟩
          rw [HX.out] at hF
          have HK : Hid (utfK ((bl s).take (i + 1) ++ tailL 2) = x.map (·.2)) := by unfold Hid; rw [utfK, HX.out]
          have hx0 := fun wv : World => (index3 wv ⟨#[]⟩ ⟨#[128]⟩ ⟨#[128, 128]⟩).2.2
          simp only [Int.natCast_zero] at hF
          rw [HK.out] at HGJ
          cases x with
          | none =>
            simp only [FirstE] at hF
            have HGJ2 : Hid (goodJ ((bl s).take (i + 1)) k (2 + 1) = gd) := by unfold Hid; rw [HGJ.out]; simp
            cases gd
            · go_wp2_with (go_at_call 93; go_must (refine (hF _).mono ?_); rintro e w1 ⟨rfl, rfl⟩)
              exact ⟨⟨2 + 1, by decide, rfl, by rw [HGJ2.out], Lib.hid trivial⟩, by simp [intOf]⟩
            · go_wp2_with (go_at_call 93; go_must (refine (hF _).mono ?_); rintro e w1 ⟨rfl, rfl⟩)
              exact ⟨⟨2 + 1, by decide, rfl, by rw [HGJ2.out], Lib.hid trivial⟩, by simp [intOf]⟩
          | some x =>
            obtain ⟨r, kk⟩ := x
            simp only [FirstE] at hF
            by_cases hkk : kk = k
            · subst hkk
              have HGJ2 : Hid (goodJ ((bl s).take (i + 1)) kk (2 + 1) = true) := by unfold Hid; rw [HGJ.out]; simp
              cases gd
              · go_wp2_with (go_at_call 93; go_must (refine (hF _).mono ?_); rintro e w1 ⟨rfl, rfl⟩)
                exact ⟨⟨2 + 1, by decide, rfl, by rw [HGJ2.out], Lib.hid trivial⟩, by simp [intOf]⟩
              · go_wp2_with (go_at_call 93; go_must (refine (hF _).mono ?_); rintro e w1 ⟨rfl, rfl⟩)
                exact ⟨⟨2 + 1, by decide, rfl, by rw [HGJ2.out], Lib.hid trivial⟩, by simp [intOf]⟩
            · have hkk2 : ¬ (kk : Int) = (k : Int) := by omega
              have HGJ2 : Hid (goodJ ((bl s).take (i + 1)) k (2 + 1) = gd) := by unfold Hid; rw [HGJ.out]; simp [hkk]
              cases gd
              · go_wp2_with (go_at_call 93; go_must (refine (hF _).mono ?_); rintro e w1 ⟨rfl, rfl⟩)
                exact ⟨⟨2 + 1, by decide, rfl, by rw [HGJ2.out]; simp [hkk2], Lib.hid trivial⟩, by simp [intOf]⟩
              · go_wp2_with (go_at_call 93; go_must (refine (hF _).mono ?_); rintro e w1 ⟨rfl, rfl⟩)
                exact ⟨⟨2 + 1, by decide, rfl, by rw [HGJ2.out], Lib.hid trivial⟩, by simp [intOf]⟩
    · have hnone : withinN (bl s) k (5 - i) i = none := by
        rcases Nat.eq_zero_or_pos (5 - i) with h0 | h0
        · rw [h0]; rfl
        · rw [show 5 - i = (5 - (i + 1)) + 1 by omega, withinN, if_neg (by rw [show (bl s).length = s.size by simp [bl]]; exact hlt)]
      have HT2 := Lib.hid (HT.out.trans hnone)
      by_cases hlt1 : i < k
      · have hlt2 : ¬ i < s.size := fun h => hlt ⟨hlt1, h⟩
        have hl1 : (i : Int) < (k : Int) := by omega
        have hl2 : ¬ (i : Int) < (s.size : Int) := by omega
        clear hlt hnone
        go_wp2_with (fail)
        go_ret2
        rw [HT2.out]
        exact ⟨rfl, HK0.out⟩
      · have hl1 : ¬ (i : Int) < (k : Int) := by omega
        clear hlt hnone
        go_wp2_with (fail)
        go_ret2
        rw [HT2.out]
        exact ⟨rfl, HK0.out⟩
end Go.Proofs.YtiemkfibpfndaaaGreatDoor

/- packread.first: the tries by which it finds of how many bytes an encoding is. Plain Lean. -/
namespace Go.Proofs.YtiemkfibpfndaaaGreatDoor

def cL : Nat → List Nat
  | 0 => []
  | 1 => [128]
  | 2 => [144]
  | _ => [160]
def tL : Nat → List Nat
  | 0 => []
  | 1 => [128]
  | 2 => [128, 128]
  | _ => [128, 128, 128]
theorem lead_try (b : Nat) (hb : b < 256) (h : ∀ a j, a < 4 → j < 4 → utfK (b :: (cL j ++ tL a)) = none) : leadK b = none := by
  have key := (show ∀ b : Fin 256, (leadK b.val).isSome = true → ∃ a : Fin 4, ∃ j : Fin 4, (utfK (b.val :: (cL j.val ++ tL a.val))).isSome = true by decide +kernel) ⟨b, hb⟩
  cases hk : leadK b with
  | none => rfl
  | some k =>
    obtain ⟨a, j, h1⟩ := key (by rw [hk]; rfl)
    rw [h a.val j.val a.isLt j.isLt] at h1
    cases h1
end Go.Proofs.YtiemkfibpfndaaaGreatDoor

/- No document begins another; what is refused at a place is refused at the end of each beginning that ends ahead of it. Plain Lean. -/
namespace Go.Proofs.YtiemkfibpfndaaaGreatDoor

/-! ### encodings -/
theorem contN_app : ∀ (l : List Nat) (n r r' : Nat) (l2 : List Nat), contN l n r = some r' → contN (l ++ l2) n r = some r'
  | l, 0, r, r', l2, h => by cases l <;> cases l2 <;> simpa [contN] using h
  | [], _ + 1, _, _, _, h => by simp [contN] at h
  | b :: l, n + 1, r, r', l2, h => by
    simp only [contN, List.cons_append] at h ⊢
    split at h
    · rw [if_pos (by assumption)]; exact contN_app l n _ _ l2 h
    · simp at h
theorem contN_len : ∀ (l : List Nat) (n r r' : Nat), contN l n r = some r' → n ≤ l.length
  | _, 0, _, _, _ => Nat.zero_le _
  | [], _ + 1, _, _, h => by simp [contN] at h
  | b :: l, n + 1, r, r', h => by
    simp only [contN] at h
    split at h
    · have := contN_len l n _ _ h; simp; omega
    · simp at h
theorem utfN_app {l : List Nat} {x : Nat × Nat} (l2 : List Nat) (h : utfN l = some x) : utfN (l ++ l2) = some x := by
  match l, h with
  | [], h => simp [utfN] at h
  | c :: l, h =>
    simp only [utfN, List.cons_append] at h ⊢
    split
    · rename_i h1; rw [if_pos h1] at h; exact h
    · rename_i h1
      rw [if_neg h1] at h
      split
      · rename_i h2
        rw [if_pos h2] at h
        obtain ⟨r, hr, h⟩ := Option.bind_eq_some_iff.1 h
        rw [contN_app _ _ _ _ l2 hr]
        exact h
      · rename_i h2
        rw [if_neg h2] at h
        split
        · rename_i h3
          rw [if_pos h3] at h
          obtain ⟨r, hr, h⟩ := Option.bind_eq_some_iff.1 h
          rw [contN_app _ _ _ _ l2 hr]
          exact h
        · rename_i h3
          rw [if_neg h3] at h
          split
          · rename_i h4
            rw [if_pos h4] at h
            obtain ⟨r, hr, h⟩ := Option.bind_eq_some_iff.1 h
            rw [contN_app _ _ _ _ l2 hr]
            exact h
          · rename_i h4
            rw [if_neg h4] at h
            exact h
theorem utfK_app {l : List Nat} {k : Nat} (l2 : List Nat) (h : utfK l = some k) : utfK (l ++ l2) = some k := by
  obtain ⟨x, hx, rfl⟩ := Option.map_eq_some_iff.1 h
  rw [utfK, utfN_app l2 hx]; rfl
/-- what stands where a code point stands -/
theorem utfK_cases {l : List Nat} {k : Nat} (h : utfK l = some k) : ∃ c r, l = c :: r ∧
    ((k = 1 ∧ c < 0x80) ∨
     (k = 2 ∧ c / 32 = 6 ∧ ∃ b1 r1, r = b1 :: r1 ∧ b1 / 64 = 2 ∧ 0x80 ≤ c % 32 * 64 + b1 % 64) ∨
     (k = 3 ∧ c / 16 = 14 ∧ ∃ b1 b2 r1, r = b1 :: b2 :: r1 ∧ b1 / 64 = 2 ∧ b2 / 64 = 2 ∧ 0x800 ≤ (c % 16 * 64 + b1 % 64) * 64 + b2 % 64 ∧ pointN ((c % 16 * 64 + b1 % 64) * 64 + b2 % 64) = true) ∨
     (k = 4 ∧ c / 8 = 30 ∧ ∃ b1 b2 b3 r1, r = b1 :: b2 :: b3 :: r1 ∧ b1 / 64 = 2 ∧ b2 / 64 = 2 ∧ b3 / 64 = 2 ∧ 0x10000 ≤ ((c % 8 * 64 + b1 % 64) * 64 + b2 % 64) * 64 + b3 % 64 ∧ pointN (((c % 8 * 64 + b1 % 64) * 64 + b2 % 64) * 64 + b3 % 64) = true)) := by
  obtain ⟨x, hx, rfl⟩ := Option.map_eq_some_iff.1 h
  clear h
  match l, hx with
  | [], h => simp [utfN] at h
  | c :: l, hx =>
    refine ⟨c, l, rfl, ?_⟩
    simp only [utfN] at hx
    split at hx
    · simp at hx; subst hx; exact .inl ⟨rfl, by assumption⟩
    split at hx
    · obtain ⟨r, hr, hy⟩ := Option.bind_eq_some_iff.1 hx
      clear hx
      match l, hr with
      | [], hr => simp [contN] at hr
      | b1 :: l, hr =>
        simp only [contN] at hr
        split at hr
        · split at hy
          · simp only [Option.some.injEq] at hr hy
            subst hr hy
            exact .inr (.inl ⟨rfl, by assumption, b1, l, rfl, by assumption, by omega⟩)
          · simp at hy
        · simp at hr
    split at hx
    · obtain ⟨r, hr, hy⟩ := Option.bind_eq_some_iff.1 hx
      clear hx
      match l, hr with
      | [], hr => simp [contN] at hr
      | [b1], hr => simp [contN] at hr
      | b1 :: b2 :: l, hr =>
        simp only [contN] at hr
        split at hr
        · split at hr
          · split at hy
            · rename_i hp
              simp only [Option.some.injEq] at hr hy
              subst hr hy
              exact .inr (.inr (.inl ⟨rfl, by assumption, b1, b2, l, rfl, by assumption, by assumption, hp.1, hp.2⟩))
            · simp at hy
          · simp at hr
        · simp at hr
    split at hx
    · obtain ⟨r, hr, hy⟩ := Option.bind_eq_some_iff.1 hx
      clear hx
      match l, hr with
      | [], hr => simp [contN] at hr
      | [b1], hr => simp [contN] at hr
      | [b1, b2], hr => simp [contN] at hr
      | b1 :: b2 :: b3 :: l, hr =>
        simp only [contN] at hr
        split at hr
        · split at hr
          · split at hr
            · split at hy
              · rename_i hp
                simp only [Option.some.injEq] at hr hy
                subst hr hy
                exact .inr (.inr (.inr ⟨rfl, by assumption, b1, b2, b3, l, rfl, by assumption, by assumption, by assumption, hp.1, hp.2⟩))
              · simp at hy
            · simp at hr
          · simp at hr
        · simp at hr
    · simp at hx
theorem utfK_pos {l : List Nat} {k : Nat} (h : utfK l = some k) : 1 ≤ k ∧ k ≤ l.length ∧ k ≤ 4 := by
  obtain ⟨c, r, e, g⟩ := utfK_cases h
  clear h
  subst e
  rcases g with ⟨rfl, _⟩ | ⟨rfl, _, b1, r1, rfl, _⟩ | ⟨rfl, _, b1, b2, r1, rfl, _⟩ | ⟨rfl, _, b1, b2, b3, r1, rfl, _⟩ <;> simp
theorem pointN_iff (r : Nat) : pointN r = true ↔ r ≤ 0x10ffff ∧ (r < 0xd800 ∨ 0xdfff < r) := by simp [pointN]
theorem utfK_lead {c : Nat} {l : List Nat} {k : Nat} (h : utfK (c :: l) = some k) : leadK c = some k := by
  obtain ⟨c', r, e, g⟩ := utfK_cases h
  clear h
  simp only [List.cons.injEq] at e
  obtain ⟨rfl, rfl⟩ := e
  unfold leadK
  rcases g with ⟨rfl, h⟩ | ⟨rfl, h, b1, r1, rfl, h1, h2⟩ | ⟨rfl, h, b1, b2, r1, rfl, h1, h2, h3, h4⟩ | ⟨rfl, h, b1, b2, b3, r1, rfl, h1, h2, h3, h4, h5⟩
  · rw [if_pos h]
  · rw [if_neg (by omega), if_pos (by omega)]
  · rw [if_neg (by omega), if_neg (by omega), if_pos (by omega)]
  · rw [pointN_iff] at h5
    rw [if_neg (by omega), if_neg (by omega), if_neg (by omega), if_pos (by omega)]
theorem utfK_mk2 {c b1 : Nat} {r : List Nat} (h : c / 32 = 6) (h1 : b1 / 64 = 2) (h2 : 0x80 ≤ c % 32 * 64 + b1 % 64) : utfK (c :: b1 :: r) = some 2 := by
  have : c % 32 * 64 + b1 % 64 < 0xd800 := by omega
  simp only [utfK, utfN]
  rw [if_neg (by omega), if_pos h]
  simp [contN, h1, h2, pointN_iff]
  omega
theorem utfK_mk3 {c b1 b2 : Nat} {r : List Nat} (h : c / 16 = 14) (h1 : b1 / 64 = 2) (h2 : b2 / 64 = 2) (h3 : 0x800 ≤ (c % 16 * 64 + b1 % 64) * 64 + b2 % 64) (h4 : pointN ((c % 16 * 64 + b1 % 64) * 64 + b2 % 64) = true) : utfK (c :: b1 :: b2 :: r) = some 3 := by
  simp only [utfK, utfN]
  rw [if_neg (by omega), if_neg (by omega), if_pos h]
  simp [contN, h1, h2, h3, h4]
theorem utfK_mk4 {c b1 b2 b3 : Nat} {r : List Nat} (h : c / 8 = 30) (h1 : b1 / 64 = 2) (h2 : b2 / 64 = 2) (h3 : b3 / 64 = 2) (h4 : 0x10000 ≤ ((c % 8 * 64 + b1 % 64) * 64 + b2 % 64) * 64 + b3 % 64) (h5 : pointN (((c % 8 * 64 + b1 % 64) * 64 + b2 % 64) * 64 + b3 % 64) = true) : utfK (c :: b1 :: b2 :: b3 :: r) = some 4 := by
  simp only [utfK, utfN]
  rw [if_neg (by omega), if_neg (by omega), if_neg (by omega), if_pos h]
  simp [contN, h1, h2, h3, h4, h5]
theorem good_of {l : List Nat} {k : Nat} (h : utfK l = some k) {i : Nat} (h1 : 1 ≤ i) (h2 : i < k) : goodN (l.take (i + 1)) k = true := by
  obtain ⟨c, r, e, g⟩ := utfK_cases h
  clear h
  subst e
  unfold goodN
  simp only [Bool.or_eq_true, beq_iff_eq]
  rcases g with ⟨rfl, _⟩ | ⟨rfl, h, b1, r1, rfl, g1, g2⟩ | ⟨rfl, h, b1, b2, r1, rfl, g1, g2, g3, g4⟩ | ⟨rfl, h, b1, b2, b3, r1, rfl, g1, g2, g3, g4, g5⟩
  · omega
  · obtain rfl : i = 1 := by omega
    exact .inl (.inl (utfK_mk2 h g1 g2))
  · rw [pointN_iff] at g4
    obtain rfl | rfl : i = 1 ∨ i = 2 := by omega
    · exact .inl (.inr (utfK_mk3 h g1 (by decide) (by omega) ((pointN_iff _).2 (by omega))))
    · exact .inl (.inl (utfK_mk3 h g1 g2 g3 ((pointN_iff _).2 g4)))
  · rw [pointN_iff] at g5
    obtain rfl | rfl | rfl : i = 1 ∨ i = 2 ∨ i = 3 := by omega
    · exact .inr (utfK_mk4 h g1 (by decide) (by decide) (by omega) ((pointN_iff _).2 (by omega)))
    · exact .inl (.inr (utfK_mk4 h g1 g2 (by decide) (by omega) ((pointN_iff _).2 (by omega))))
    · exact .inl (.inl (utfK_mk4 h g1 g2 g3 g4 ((pointN_iff _).2 g5)))
theorem within_app : ∀ (m i : Nat) (l l2 : List Nat) (k p : Nat), withinN l k m i = some p → withinN (l ++ l2) k m i = some p ∧ i ≤ p ∧ p < k ∧ p < l.length ∧ goodN (l.take (p + 1)) k = false
  | 0, _, _, _, _, _, h => by simp [withinN] at h
  | m + 1, i, l, l2, k, p, h => by
    simp only [withinN] at h ⊢
    split at h
    · rename_i hc
      have ht : (l ++ l2).take (i + 1) = l.take (i + 1) := List.take_append_of_le_length (by omega)
      rw [if_pos ⟨hc.1, by rw [List.length_append]; omega⟩, ht]
      split at h
      · rename_i hg
        rw [if_pos hg]
        obtain ⟨h1, h2, h3, h4, h5⟩ := within_app m (i + 1) l l2 k p h
        exact ⟨h1, by omega, h3, h4, h5⟩
      · rename_i hg
        rw [if_neg hg]
        simp only [Option.some.injEq] at h
        subst h
        exact ⟨rfl, Nat.le_refl _, hc.1, hc.2, by simpa using hg⟩
    · simp at h
theorem first_app {l : List Nat} {n p : Nat} (l2 : List Nat) (hl : l ≠ []) (hn : (l ++ l2).length ≤ n) (h : firstN l n = some p) : firstN (l ++ l2) n = some p ∧ utfK (l ++ l2) = none ∧ p < l.length := by
  match l, hl with
  | b :: l, _ =>
    have key : ∀ k, utfK (b :: l ++ l2) = some k → leadK b = some k ∧ k ≤ n := fun k hk => ⟨utfK_lead hk, Nat.le_trans (utfK_pos hk).2.1 hn⟩
    have key2 : utfK (b :: l ++ l2) ≠ none → ∃ k, utfK (b :: l ++ l2) = some k := fun h => Option.ne_none_iff_exists'.1 h
    simp only [firstN, List.cons_append] at h ⊢
    cases hk : leadK b with
    | none =>
      rw [hk] at h
      simp only [Option.some.injEq] at h
      subst h
      refine ⟨rfl, Decidable.byContradiction fun hc => ?_, by simp⟩
      obtain ⟨k, hk'⟩ := key2 hc
      rw [hk] at key
      exact absurd (key k hk').1 (by simp)
    | some k =>
      rw [hk] at h
      simp only at h ⊢
      split at h
      · rename_i hlt
        rw [if_pos hlt]
        simp only [Option.some.injEq] at h
        subst h
        refine ⟨rfl, Decidable.byContradiction fun hc => ?_, by simp⟩
        obtain ⟨k', hk'⟩ := key2 hc
        obtain ⟨h1, h2⟩ := key k' hk'
        rw [hk] at h1
        simp only [Option.some.injEq] at h1
        omega
      · rename_i hlt
        rw [if_neg hlt]
        obtain ⟨h1, h2, h3, h4, h5⟩ := within_app 4 1 (b :: l) l2 k p h
        refine ⟨h1, Decidable.byContradiction fun hc => ?_, h4⟩
        obtain ⟨k', hk'⟩ := key2 hc
        obtain ⟨g1, g2⟩ := key k' hk'
        rw [hk] at g1
        simp only [Option.some.injEq] at g1
        subst g1
        have := good_of hk' h2 h3
        rw [List.take_append_of_le_length (by omega), h5] at this
        cases this
theorem scan_app : ∀ (m : Nat) (l : List Nat) (n : Nat) (l2 : List Nat) (p m' : Nat), l.length ≤ m → (l ++ l2).length ≤ m' → (l ++ l2).length ≤ n → scanN m l n = some p → scanN m' (l ++ l2) n = some p ∧ p < l.length
  | 0, _, _, _, _, _, _, _, _, h => by simp [scanN] at h
  | m + 1, [], _, _, _, _, _, _, _, h => by simp [scanN] at h
  | m + 1, b :: l, n, l2, p, 0, _, h2, _, _ => by simp at h2
  | m + 1, b :: l, n, l2, p, m' + 1, h1, h2, h3, h => by
    cases hk : utfK (b :: l) with
    | some k =>
      obtain ⟨k1, k2, k3⟩ := utfK_pos hk
      have hk2 : utfK (b :: (l ++ l2)) = some k := utfK_app l2 hk
      simp only [scanN, hk] at h
      obtain ⟨p0, hp0, rfl⟩ := Option.map_eq_some_iff.1 h
      have hd : (b :: l ++ l2).drop k = (b :: l).drop k ++ l2 := List.drop_append_of_le_length k2
      have hlen : ((b :: l).drop k ++ l2).length = (b :: l ++ l2).length - k := by rw [← hd, List.length_drop]
      obtain ⟨g1, g2⟩ := scan_app m ((b :: l).drop k) (n - k) l2 p0 m' (by rw [List.length_drop]; omega) (by omega) (by omega) hp0
      simp only [List.cons_append, scanN, hk2]
      rw [List.length_drop] at g2
      refine ⟨?_, by omega⟩
      rw [show (b :: (l ++ l2)).drop k = (b :: l).drop k ++ l2 from hd, g1]
      rfl
    | none =>
      simp only [scanN, hk] at h
      obtain ⟨g1, g2, g3⟩ := first_app l2 (by simp) h3 h
      refine ⟨?_, g3⟩
      simp only [List.cons_append] at g1 g2
      simp only [List.cons_append, scanN, g2, g1]
theorem scan_none {m m' : Nat} {l : List Nat} {n : Nat} (j : Nat) (h1 : l.length ≤ m) (h2 : l.length ≤ n) (h3 : (l.take j).length ≤ m') (h : ∀ p, scanN m l n = some p → j ≤ p) : scanN m' (l.take j) n = none := by
  refine Decidable.byContradiction fun hc => ?_
  obtain ⟨q, hq⟩ := Option.ne_none_iff_exists'.1 hc
  have e : l.take j ++ l.drop j = l := List.take_append_drop j l
  obtain ⟨g1, g2⟩ := scan_app m' (l.take j) n (l.drop j) q m h3 (by rw [e]; exact h1) (by rw [e]; exact h2) hq
  rw [e] at g1
  have := h q g1
  rw [List.length_take] at g2
  omega

/-! ### beginnings -/
/-- r' is what is read of the first i bytes, r what is read of all -/
def Cl {α : Type} (i : Nat) (r' r : R α) : Prop := match r with
  | .ok v p => (p ≤ i → r' = .ok v p) ∧ (i < p → r' = .bad 3 i)
  | .bad _ p => i ≤ p → r' = .bad 3 i
def OkGe {α : Type} (p : Nat) (r : R α) : Prop := match r with
  | .ok _ q => p ≤ q
  | .bad _ _ => True
theorem OkGe.mono {α : Type} {p q : Nat} {r : R α} (h : OkGe q r) (hp : p ≤ q) : OkGe p r := by
  cases r with
  | ok v z => exact Nat.le_trans hp h
  | bad c z => trivial
theorem OkGe.bind {α β : Type} {p : Nat} {m : R α} {f : α → Nat → R β} (h : OkGe p m) (hf : ∀ v q, p ≤ q → OkGe q (f v q)) : OkGe p (m.bind f) := by
  cases m with
  | ok v q => exact (hf v q h).mono h
  | bad c q => trivial
theorem Cl.bind {α β : Type} {i : Nat} {m m' : R α} {f f' : α → Nat → R β} (h : Cl i m' m) (hf : ∀ v q, m = .ok v q → q ≤ i → Cl i (f' v q) (f v q)) (hg : ∀ v q, m = .ok v q → OkGe q (f v q)) : Cl i (m'.bind f') (m.bind f) := by
  cases m with
  | ok v q =>
    by_cases hq : q ≤ i
    · rw [h.1 hq]
      exact hf v q rfl hq
    · rw [h.2 (by omega)]
      have := hg v q rfl
      show Cl i (.bad 3 i) (f v q)
      cases hr : f v q with
      | ok w z =>
        rw [hr] at this
        exact ⟨fun hz => absurd (Nat.le_trans this hz) hq, fun _ => rfl⟩
      | bad c z => exact fun _ => rfl
  | bad c q => exact fun hq => by rw [show m' = .bad 3 i from h hq]; rfl
theorem Cl.ok {α : Type} {i p : Nat} (v : α) (h : p ≤ i) : Cl i (.ok v p) (.ok v p) := ⟨fun _ => rfl, fun h' => absurd h (by omega)⟩
theorem Cl.bad {α : Type} {i p c : Nat} (r' : R α) (h : p < i) : Cl i r' (.bad c p) := fun h' => absurd h (by omega)
end Go.Proofs.YtiemkfibpfndaaaGreatDoor

/- packread.first: where no encoding stands, the first wrong byte. -/
namespace Go.Proofs.YtiemkfibpfndaaaGreatDoor
open Go.RowKit

/-- all tries ahead of the one at (a, j) failed -/
def Tried (b a j : Nat) : Prop := ∀ a' j', a' < 4 → j' < 4 → (a' < a ∨ a' = a ∧ j' < j) → utfK (b :: (cL j' ++ tL a')) = none
theorem Tried.next {b a j : Nat} (h : Tried b a j) (hx : utfK (b :: (cL j ++ tL a)) = none) : Tried b a (j + 1) := fun a' j' h1 h2 h3 => by
  rcases h3 with h3 | ⟨rfl, h3⟩
  · exact h a' j' h1 h2 (.inl h3)
  · rcases Nat.lt_or_ge j' j with h4 | h4
    · exact h a' j' h1 h2 (.inr ⟨rfl, h4⟩)
    · obtain rfl : j' = j := by omega
      exact hx
theorem Tried.row {b a : Nat} (h : Tried b a 4) : Tried b (a + 1) 0 := fun a' j' h1 h2 h3 => by
  rcases h3 with h3 | ⟨rfl, h3⟩
  · rcases Nat.lt_or_ge a' a with h4 | h4
    · exact h a' j' h1 h2 (.inl h4)
    · obtain rfl : a' = a := by omega
      exact h a' j' h1 h2 (.inr ⟨rfl, h2⟩)
  · omega
theorem bl_head {s : ByteArray} (h : 0 < s.size) : ∃ r, bl s = (s[0]'h).toNat :: r ∧ bl (s.extract 0 1) = [(s[0]'h).toNat] := by
  have h1 := byte_at h
  obtain ⟨hq, hg⟩ := List.getElem?_eq_some_iff.1 h1
  have e : bl s = (s[0]'h).toNat :: (bl s).drop 1 := by
    have := List.drop_eq_getElem_cons hq
    rw [List.drop_zero, hg] at this
    exact this
  refine ⟨(bl s).drop 1, e, ?_⟩
  rw [bl_take, e]
  rfl
theorem first_some {s : ByteArray} {b k n : Nat} {r : List Nat} (e : bl s = b :: r) (h : leadK b = some k) : firstN (bl s) n = if n < k then some 0 else withinN (bl s) k 4 1 := by
  rw [e]; simp only [firstN, h]
theorem first_none {s : ByteArray} {b n : Nat} {r : List Nat} (e : bl s = b :: r) (h : leadK b = none) : firstN (bl s) n = some 0 := by
  rw [e]; simp only [firstN, h]
theorem size_app3 (s c t : ByteArray) (hs : s.size ≤ 1152921504606846960) (h1 : c.size ≤ 3) (h2 : t.size ≤ 3) : (s.extract 0 1 ++ c ++ t).size ≤ 1152921504606846976 := by
  rw [ByteArray.size_append, ByteArray.size_append, ByteArray.size_extract]; omega
set_option maxHeartbeats 8000000 in
set_option maxRecDepth 100000 in
theorem first_ok (s : ByteArray) (n : Nat) (hs : s.size ≤ 1152921504606846960) (hpos : 0 < s.size) (_hn : n < 18446744073709551616) (w : World) :
    Calls Tryz.prog 94 #[.string s, .int .u64 (n : Int)] w fun e w' => e = WithinE (firstN (bl s) n) ∧ Keep nob w w' := by
  have HS := Lib.hid hs
  obtain ⟨rest, hbl, hbl1⟩ := bl_head hpos
  obtain ⟨b, HB⟩ : ∃ b, Hid ((s[0]'hpos).toNat = b) := ⟨_, Lib.hid rfl⟩
  have HB256 : Hid (b < 256) := by unfold Hid; rw [← HB.out]; exact UInt8.toNat_lt _
  rw [HB.out] at hbl hbl1
  have HBL := Lib.hid hbl
  have HBL1 := Lib.hid hbl1
  clear hbl hbl1
  have HW9 := Lib.hid (fun (k : Nat) (hk : k ≤ 4) (wv : World) => within_ok s k (by have := HS.out; omega) hk wv)
  go_enter Tryz.func94, Tryz.ntmps94
  go_wp2_with (fail)
  go_loopw [14] (fun u14 wr => ∃ a : Nat, a ≤ 4 ∧ u14 = .int .i64 (a : Int) ∧ Hid (Tried b a 0) ∧ Hid (wr = w)) (fun u14 _ => 4 - (intOf u14).toNat)
  case atStart => exact ⟨0, by decide, rfl, fun a' j' _ _ h => by omega, Lib.hid rfl⟩
  case round =>
    obtain ⟨a, ha, rfl, HT, HW⟩ := hrel
    have HW2 := HW.out
    subst HW2
    by_cases ha4 : a = 4
    · subst ha4
      have hl := lead_try b HB256.out (fun a' j' h1 h2 => HT.out a' j' h1 h2 (.inl h1))
      have HFN := Lib.hid (first_none HBL.out hl (n := n))
      go_wp2_with (fail)
      go_ret2
      rw [HFN.out]
      exact ⟨rfl, Keep.refl _ _⟩
    rcases (show a = 0 ∨ a = 1 ∨ a = 2 ∨ a = 3 by omega) with rfl | rfl | rfl | rfl
    · have hx0 := fun wv : World => (index4 wv ⟨#[]⟩ ⟨#[128]⟩ ⟨#[128, 128]⟩ ⟨#[128, 128, 128]⟩).1
      obtain ⟨wo, rfl⟩ : ∃ wo : World, wo = wr := ⟨_, rfl⟩
      go_wp2_with (fail)
      clear hx0
      go_loopw [18] (fun u18 wv => ∃ j : Nat, j ≤ 4 ∧ u18 = .int .i64 (j : Int) ∧ Hid (Tried b 0 j) ∧ Hid (wv = wo)) (fun u18 _ => 4 - (intOf u18).toNat)
      case atStart => exact ⟨0, by decide, rfl, HT, Lib.hid rfl⟩
      case round =>
        obtain ⟨j, hj, rfl, HTJ, HV⟩ := hrel
        have HV2 := HV.out
        subst HV2
        by_cases hj4 : j = 4
        · subst hj4
          go_wp2_with (fail)
          exact ⟨⟨0 + 1, by decide, rfl, HTJ.out.row, Lib.hid trivial⟩, by simp [intOf]⟩
        rcases (show j = 0 ∨ j = 1 ∨ j = 2 ∨ j = 3 by omega) with rfl | rfl | rfl | rfl
        · have hF := fun wv => utfFirst_ok (s.extract 0 1 ++ ⟨#[]⟩ ++ ⟨#[]⟩) 0 (size_app3 s _ _ HS.out (by decide) (by decide)) (by decide) wv
          have hbl : bl (s.extract 0 1 ++ ⟨#[]⟩ ++ ⟨#[]⟩) = b :: (cL 0 ++ tL 0) := by rw [bl_app, bl_app, HBL1.out]; rfl
          rw [hbl, List.drop_zero] at hF
          obtain ⟨x, HX⟩ : ∃ x, Hid (utfN (b :: (cL 0 ++ tL 0)) = x) := ⟨_, Lib.hid rfl⟩
          rw [HX.out] at hF
          have HK : Hid (utfK (b :: (cL 0 ++ tL 0)) = x.map (·.2)) := by unfold Hid; rw [utfK, HX.out]
          have hx0 := fun wv : World => (index4 wv ⟨#[]⟩ ⟨#[128]⟩ ⟨#[144]⟩ ⟨#[160]⟩).1
          simp only [Int.natCast_zero] at hF
          cases x with
          | none =>
            simp only [FirstE] at hF
            go_wp2_with (go_at_call 93; go_must (refine (hF _).mono ?_); rintro e w1 ⟨rfl, rfl⟩)
            exact ⟨⟨0 + 1, by decide, rfl, HTJ.out.next HK.out, Lib.hid trivial⟩, by simp [intOf]⟩
          | some x =>
            obtain ⟨r, kk⟩ := x
            simp only [FirstE] at hF
            have hlk : leadK b = some kk := utfK_lead HK.out
            have hk4 : kk ≤ 4 := (utfK_pos HK.out).2.2
            have HFS := Lib.hid (first_some HBL.out hlk (n := n))
            have hkw : IntKind.u64.wrap (kk : Int) = (kk : Int) := by rw [IntKind.wrap_u64]; omega
            by_cases hgt : n < kk
            · have hg2 : (kk : Int) > (n : Int) := by omega
              rw [if_pos hgt] at HFS
              go_wp2_with (go_at_call 93; go_must (refine (hF _).mono ?_); rintro e w1 ⟨rfl, rfl⟩)
              go_ret2
              rw [HFS.out]
              exact ⟨rfl, Keep.refl _ _⟩
            · have hg2 : ¬ (kk : Int) > (n : Int) := by omega
              rw [if_neg hgt] at HFS
              have hW := HW9.out kk hk4
              obtain ⟨y, HY⟩ : ∃ y, Hid (withinN (bl s) kk 4 1 = y) := ⟨_, Lib.hid rfl⟩
              rw [HY.out] at HFS hW
              cases y with
              | none =>
                simp only [WithinE] at hW
                go_wp2_with (first | (go_at_call 93; go_must (refine (hF _).mono ?_); rintro e w1 ⟨rfl, rfl⟩) | (go_at_call 127; go_must (refine (hW _).mono ?_); rintro e w2 ⟨rfl, hk2⟩))
                go_ret2
                rw [HFS.out]
                exact ⟨rfl, hk2⟩
              | some y =>
                simp only [WithinE] at hW
                go_wp2_with (first | (go_at_call 93; go_must (refine (hF _).mono ?_); rintro e w1 ⟨rfl, rfl⟩) | (go_at_call 127; go_must (refine (hW _).mono ?_); rintro e w2 ⟨rfl, hk2⟩))
                go_ret2
                rw [HFS.out]
                exact ⟨rfl, hk2⟩
        · have hF := fun wv => utfFirst_ok (s.extract 0 1 ++ ⟨#[128]⟩ ++ ⟨#[]⟩) 0 (size_app3 s _ _ HS.out (by decide) (by decide)) (by decide) wv
          have hbl : bl (s.extract 0 1 ++ ⟨#[128]⟩ ++ ⟨#[]⟩) = b :: (cL 1 ++ tL 0) := by rw [bl_app, bl_app, HBL1.out]; rfl
          rw [hbl, List.drop_zero] at hF
          obtain ⟨x, HX⟩ : ∃ x, Hid (utfN (b :: (cL 1 ++ tL 0)) = x) := ⟨_, Lib.hid rfl⟩
          rw [HX.out] at hF
          have HK : Hid (utfK (b :: (cL 1 ++ tL 0)) = x.map (·.2)) := by unfold Hid; rw [utfK, HX.out]
          have hx0 := fun wv : World => (index4 wv ⟨#[]⟩ ⟨#[128]⟩ ⟨#[144]⟩ ⟨#[160]⟩).2.1
          simp only [Int.natCast_zero] at hF
          cases x with
          | none =>
            simp only [FirstE] at hF
            go_wp2_with (go_at_call 93; go_must (refine (hF _).mono ?_); rintro e w1 ⟨rfl, rfl⟩)
            exact ⟨⟨1 + 1, by decide, rfl, HTJ.out.next HK.out, Lib.hid trivial⟩, by simp [intOf]⟩
          | some x =>
            obtain ⟨r, kk⟩ := x
            simp only [FirstE] at hF
            have hlk : leadK b = some kk := utfK_lead HK.out
            have hk4 : kk ≤ 4 := (utfK_pos HK.out).2.2
            have HFS := Lib.hid (first_some HBL.out hlk (n := n))
            have hkw : IntKind.u64.wrap (kk : Int) = (kk : Int) := by rw [IntKind.wrap_u64]; omega
            by_cases hgt : n < kk
            · have hg2 : (kk : Int) > (n : Int) := by omega
              rw [if_pos hgt] at HFS
              go_wp2_with (go_at_call 93; go_must (refine (hF _).mono ?_); rintro e w1 ⟨rfl, rfl⟩)
              go_ret2
              rw [HFS.out]
              exact ⟨rfl, Keep.refl _ _⟩
            · have hg2 : ¬ (kk : Int) > (n : Int) := by omega
              rw [if_neg hgt] at HFS
              have hW := HW9.out kk hk4
              obtain ⟨y, HY⟩ : ∃ y, Hid (withinN (bl s) kk 4 1 = y) := ⟨_, Lib.hid rfl⟩
              rw [HY.out] at HFS hW
              cases y with
              | none =>
                simp only [WithinE] at hW
                go_wp2_with (first | (go_at_call 93; go_must (refine (hF _).mono ?_); rintro e w1 ⟨rfl, rfl⟩) | (go_at_call 127; go_must (refine (hW _).mono ?_); rintro e w2 ⟨rfl, hk2⟩))
                go_ret2
                rw [HFS.out]
                exact ⟨rfl, hk2⟩
              | some y =>
                simp only [WithinE] at hW
                go_wp2_with (first | (go_at_call 93; go_must (refine (hF _).mono ?_); rintro e w1 ⟨rfl, rfl⟩) | (go_at_call 127; go_must (refine (hW _).mono ?_); rintro e w2 ⟨rfl, hk2⟩))
                go_ret2
                rw [HFS.out]
                exact ⟨rfl, hk2⟩
        · have hF := fun wv => utfFirst_ok (s.extract 0 1 ++ ⟨#[144]⟩ ++ ⟨#[]⟩) 0 (size_app3 s _ _ HS.out (by decide) (by decide)) (by decide) wv
          have hbl : bl (s.extract 0 1 ++ ⟨#[144]⟩ ++ ⟨#[]⟩) = b :: (cL 2 ++ tL 0) := by rw [bl_app, bl_app, HBL1.out]; rfl
          rw [hbl, List.drop_zero] at hF
          obtain ⟨x, HX⟩ : ∃ x, Hid (utfN (b :: (cL 2 ++ tL 0)) = x) := ⟨_, Lib.hid rfl⟩
          rw [HX.out] at hF
          have HK : Hid (utfK (b :: (cL 2 ++ tL 0)) = x.map (·.2)) := by unfold Hid; rw [utfK, HX.out]
          have hx0 := fun wv : World => (index4 wv ⟨#[]⟩ ⟨#[128]⟩ ⟨#[144]⟩ ⟨#[160]⟩).2.2.1
          simp only [Int.natCast_zero] at hF
          cases x with
          | none =>
            simp only [FirstE] at hF
            go_wp2_with (go_at_call 93; go_must (refine (hF _).mono ?_); rintro e w1 ⟨rfl, rfl⟩)
            exact ⟨⟨2 + 1, by decide, rfl, HTJ.out.next HK.out, Lib.hid trivial⟩, by simp [intOf]⟩
          | some x =>
            obtain ⟨r, kk⟩ := x
            simp only [FirstE] at hF
            have hlk : leadK b = some kk := utfK_lead HK.out
            have hk4 : kk ≤ 4 := (utfK_pos HK.out).2.2
            have HFS := Lib.hid (first_some HBL.out hlk (n := n))
            have hkw : IntKind.u64.wrap (kk : Int) = (kk : Int) := by rw [IntKind.wrap_u64]; omega
            by_cases hgt : n < kk
            · have hg2 : (kk : Int) > (n : Int) := by omega
              rw [if_pos hgt] at HFS
              go_wp2_with (go_at_call 93; go_must (refine (hF _).mono ?_); rintro e w1 ⟨rfl, rfl⟩)
              go_ret2
              rw [HFS.out]
              exact ⟨rfl, Keep.refl _ _⟩
            · have hg2 : ¬ (kk : Int) > (n : Int) := by omega
              rw [if_neg hgt] at HFS
              have hW := HW9.out kk hk4
              obtain ⟨y, HY⟩ : ∃ y, Hid (withinN (bl s) kk 4 1 = y) := ⟨_, Lib.hid rfl⟩
              rw [HY.out] at HFS hW
              cases y with
              | none =>
                simp only [WithinE] at hW
                go_wp2_with (first | (go_at_call 93; go_must (refine (hF _).mono ?_); rintro e w1 ⟨rfl, rfl⟩) | (go_at_call 127; go_must (refine (hW _).mono ?_); rintro e w2 ⟨rfl, hk2⟩))
                go_ret2
                rw [HFS.out]
                exact ⟨rfl, hk2⟩
              | some y =>
                simp only [WithinE] at hW
                go_wp2_with (first | (go_at_call 93; go_must (refine (hF _).mono ?_); rintro e w1 ⟨rfl, rfl⟩) | (go_at_call 127; go_must (refine (hW _).mono ?_); rintro e w2 ⟨rfl, hk2⟩))
                go_ret2
                rw [HFS.out]
                exact ⟨rfl, hk2⟩
        · have hF := fun wv => utfFirst_ok (s.extract 0 1 ++ ⟨#[160]⟩ ++ ⟨#[]⟩) 0 (size_app3 s _ _ HS.out (by decide) (by decide)) (by decide) wv
          have hbl : bl (s.extract 0 1 ++ ⟨#[160]⟩ ++ ⟨#[]⟩) = b :: (cL 3 ++ tL 0) := by rw [bl_app, bl_app, HBL1.out]; rfl
          rw [hbl, List.drop_zero] at hF
          obtain ⟨x, HX⟩ : ∃ x, Hid (utfN (b :: (cL 3 ++ tL 0)) = x) := ⟨_, Lib.hid rfl⟩
          rw [HX.out] at hF
          have HK : Hid (utfK (b :: (cL 3 ++ tL 0)) = x.map (·.2)) := by unfold Hid; rw [utfK, HX.out]
          have hx0 := fun wv : World => (index4 wv ⟨#[]⟩ ⟨#[128]⟩ ⟨#[144]⟩ ⟨#[160]⟩).2.2.2
          simp only [Int.natCast_zero] at hF
          cases x with
          | none =>
            simp only [FirstE] at hF
            go_wp2_with (go_at_call 93; go_must (refine (hF _).mono ?_); rintro e w1 ⟨rfl, rfl⟩)
            exact ⟨⟨3 + 1, by decide, rfl, HTJ.out.next HK.out, Lib.hid trivial⟩, by simp [intOf]⟩
          | some x =>
            obtain ⟨r, kk⟩ := x
            simp only [FirstE] at hF
            have hlk : leadK b = some kk := utfK_lead HK.out
            have hk4 : kk ≤ 4 := (utfK_pos HK.out).2.2
            have HFS := Lib.hid (first_some HBL.out hlk (n := n))
            have hkw : IntKind.u64.wrap (kk : Int) = (kk : Int) := by rw [IntKind.wrap_u64]; omega
            by_cases hgt : n < kk
            · have hg2 : (kk : Int) > (n : Int) := by omega
              rw [if_pos hgt] at HFS
              go_wp2_with (go_at_call 93; go_must (refine (hF _).mono ?_); rintro e w1 ⟨rfl, rfl⟩)
              go_ret2
              rw [HFS.out]
              exact ⟨rfl, Keep.refl _ _⟩
            · have hg2 : ¬ (kk : Int) > (n : Int) := by omega
              rw [if_neg hgt] at HFS
              have hW := HW9.out kk hk4
              obtain ⟨y, HY⟩ : ∃ y, Hid (withinN (bl s) kk 4 1 = y) := ⟨_, Lib.hid rfl⟩
              rw [HY.out] at HFS hW
              cases y with
              | none =>
                simp only [WithinE] at hW
                go_wp2_with (first | (go_at_call 93; go_must (refine (hF _).mono ?_); rintro e w1 ⟨rfl, rfl⟩) | (go_at_call 127; go_must (refine (hW _).mono ?_); rintro e w2 ⟨rfl, hk2⟩))
                go_ret2
                rw [HFS.out]
                exact ⟨rfl, hk2⟩
              | some y =>
                simp only [WithinE] at hW
                go_wp2_with (first | (go_at_call 93; go_must (refine (hF _).mono ?_); rintro e w1 ⟨rfl, rfl⟩) | (go_at_call 127; go_must (refine (hW _).mono ?_); rintro e w2 ⟨rfl, hk2⟩))
                go_ret2
                rw [HFS.out]
                exact ⟨rfl, hk2⟩
    · have hx0 := fun wv : World => (index4 wv ⟨#[]⟩ ⟨#[128]⟩ ⟨#[128, 128]⟩ ⟨#[128, 128, 128]⟩).2.1
      obtain ⟨wo, rfl⟩ : ∃ wo : World, wo = wr := ⟨_, rfl⟩
      go_wp2_with (fail)
      clear hx0
      go_loopw [18] (fun u18 wv => ∃ j : Nat, j ≤ 4 ∧ u18 = .int .i64 (j : Int) ∧ Hid (Tried b 1 j) ∧ Hid (wv = wo)) (fun u18 _ => 4 - (intOf u18).toNat)
      case atStart => exact ⟨0, by decide, rfl, HT, Lib.hid rfl⟩
      case round =>
        obtain ⟨j, hj, rfl, HTJ, HV⟩ := hrel
        have HV2 := HV.out
        subst HV2
        by_cases hj4 : j = 4
        · subst hj4
          go_wp2_with (fail)
          exact ⟨⟨1 + 1, by decide, rfl, HTJ.out.row, Lib.hid trivial⟩, by simp [intOf]⟩
        rcases (show j = 0 ∨ j = 1 ∨ j = 2 ∨ j = 3 by omega) with rfl | rfl | rfl | rfl
        · have hF := fun wv => utfFirst_ok (s.extract 0 1 ++ ⟨#[]⟩ ++ ⟨#[128]⟩) 0 (size_app3 s _ _ HS.out (by decide) (by decide)) (by decide) wv
          have hbl : bl (s.extract 0 1 ++ ⟨#[]⟩ ++ ⟨#[128]⟩) = b :: (cL 0 ++ tL 1) := by rw [bl_app, bl_app, HBL1.out]; rfl
          rw [hbl, List.drop_zero] at hF
          obtain ⟨x, HX⟩ : ∃ x, Hid (utfN (b :: (cL 0 ++ tL 1)) = x) := ⟨_, Lib.hid rfl⟩
          rw [HX.out] at hF
          have HK : Hid (utfK (b :: (cL 0 ++ tL 1)) = x.map (·.2)) := by unfold Hid; rw [utfK, HX.out]
          have hx0 := fun wv : World => (index4 wv ⟨#[]⟩ ⟨#[128]⟩ ⟨#[144]⟩ ⟨#[160]⟩).1
          simp only [Int.natCast_zero] at hF
          cases x with
          | none =>
            simp only [FirstE] at hF
            go_wp2_with (go_at_call 93; go_must (refine (hF _).mono ?_); rintro e w1 ⟨rfl, rfl⟩)
            exact ⟨⟨0 + 1, by decide, rfl, HTJ.out.next HK.out, Lib.hid trivial⟩, by simp [intOf]⟩
          | some x =>
            obtain ⟨r, kk⟩ := x
            simp only [FirstE] at hF
            have hlk : leadK b = some kk := utfK_lead HK.out
            have hk4 : kk ≤ 4 := (utfK_pos HK.out).2.2
            have HFS := Lib.hid (first_some HBL.out hlk (n := n))
            have hkw : IntKind.u64.wrap (kk : Int) = (kk : Int) := by rw [IntKind.wrap_u64]; omega
            by_cases hgt : n < kk
            · have hg2 : (kk : Int) > (n : Int) := by omega
              rw [if_pos hgt] at HFS
              go_wp2_with (go_at_call 93; go_must (refine (hF _).mono ?_); rintro e w1 ⟨rfl, rfl⟩)
              go_ret2
              rw [HFS.out]
              exact ⟨rfl, Keep.refl _ _⟩
            · have hg2 : ¬ (kk : Int) > (n : Int) := by omega
              rw [if_neg hgt] at HFS
              have hW := HW9.out kk hk4
              obtain ⟨y, HY⟩ : ∃ y, Hid (withinN (bl s) kk 4 1 = y) := ⟨_, Lib.hid rfl⟩
              rw [HY.out] at HFS hW
              cases y with
              | none =>
                simp only [WithinE] at hW
                go_wp2_with (first | (go_at_call 93; go_must (refine (hF _).mono ?_); rintro e w1 ⟨rfl, rfl⟩) | (go_at_call 127; go_must (refine (hW _).mono ?_); rintro e w2 ⟨rfl, hk2⟩))
                go_ret2
                rw [HFS.out]
                exact ⟨rfl, hk2⟩
              | some y =>
                simp only [WithinE] at hW
                go_wp2_with (first | (go_at_call 93; go_must (refine (hF _).mono ?_); rintro e w1 ⟨rfl, rfl⟩) | (go_at_call 127; go_must (refine (hW _).mono ?_); rintro e w2 ⟨rfl, hk2⟩))
                go_ret2
                rw [HFS.out]
                exact ⟨rfl, hk2⟩
        · have hF := fun wv => utfFirst_ok (s.extract 0 1 ++ ⟨#[128]⟩ ++ ⟨#[128]⟩) 0 (size_app3 s _ _ HS.out (by decide) (by decide)) (by decide) wv
          have hbl : bl (s.extract 0 1 ++ ⟨#[128]⟩ ++ ⟨#[128]⟩) = b :: (cL 1 ++ tL 1) := by rw [bl_app, bl_app, HBL1.out]; rfl
          rw [hbl, List.drop_zero] at hF
          obtain ⟨x, HX⟩ : ∃ x, Hid (utfN (b :: (cL 1 ++ tL 1)) = x) := ⟨_, Lib.hid rfl⟩
          rw [HX.out] at hF
          have HK : Hid (utfK (b :: (cL 1 ++ tL 1)) = x.map (·.2)) := by unfold Hid; rw [utfK, HX.out]
          have hx0 := fun wv : World => (index4 wv ⟨#[]⟩ ⟨#[128]⟩ ⟨#[144]⟩ ⟨#[160]⟩).2.1
          simp only [Int.natCast_zero] at hF
          cases x with
          | none =>
            simp only [FirstE] at hF
            go_wp2_with (go_at_call 93; go_must (refine (hF _).mono ?_); rintro e w1 ⟨rfl, rfl⟩)
            exact ⟨⟨1 + 1, by decide, rfl, HTJ.out.next HK.out, Lib.hid trivial⟩, by simp [intOf]⟩
          | some x =>
            obtain ⟨r, kk⟩ := x
            simp only [FirstE] at hF
            have hlk : leadK b = some kk := utfK_lead HK.out
            have hk4 : kk ≤ 4 := (utfK_pos HK.out).2.2
            have HFS := Lib.hid (first_some HBL.out hlk (n := n))
            have hkw : IntKind.u64.wrap (kk : Int) = (kk : Int) := by rw [IntKind.wrap_u64]; omega
            by_cases hgt : n < kk
            · have hg2 : (kk : Int) > (n : Int) := by omega
              rw [if_pos hgt] at HFS
              go_wp2_with (go_at_call 93; go_must (refine (hF _).mono ?_); rintro e w1 ⟨rfl, rfl⟩)
              go_ret2
              rw [HFS.out]
              exact ⟨rfl, Keep.refl _ _⟩
            · have hg2 : ¬ (kk : Int) > (n : Int) := by omega
              rw [if_neg hgt] at HFS
              have hW := HW9.out kk hk4
              obtain ⟨y, HY⟩ : ∃ y, Hid (withinN (bl s) kk 4 1 = y) := ⟨_, Lib.hid rfl⟩
              rw [HY.out] at HFS hW
              cases y with
              | none =>
                simp only [WithinE] at hW
                go_wp2_with (first | (go_at_call 93; go_must (refine (hF _).mono ?_); rintro e w1 ⟨rfl, rfl⟩) | (go_at_call 127; go_must (refine (hW _).mono ?_); rintro e w2 ⟨rfl, hk2⟩))
                go_ret2
                rw [HFS.out]
                exact ⟨rfl, hk2⟩
              | some y =>
                simp only [WithinE] at hW
                go_wp2_with (first | (go_at_call 93; go_must (refine (hF _).mono ?_); rintro e w1 ⟨rfl, rfl⟩) | (go_at_call 127; go_must (refine (hW _).mono ?_); rintro e w2 ⟨rfl, hk2⟩))
                go_ret2
                rw [HFS.out]
                exact ⟨rfl, hk2⟩
        · have hF := fun wv => utfFirst_ok (s.extract 0 1 ++ ⟨#[144]⟩ ++ ⟨#[128]⟩) 0 (size_app3 s _ _ HS.out (by decide) (by decide)) (by decide) wv
          have hbl : bl (s.extract 0 1 ++ ⟨#[144]⟩ ++ ⟨#[128]⟩) = b :: (cL 2 ++ tL 1) := by rw [bl_app, bl_app, HBL1.out]; rfl
          rw [hbl, List.drop_zero] at hF
          obtain ⟨x, HX⟩ : ∃ x, Hid (utfN (b :: (cL 2 ++ tL 1)) = x) := ⟨_, Lib.hid rfl⟩
          rw [HX.out] at hF
          have HK : Hid (utfK (b :: (cL 2 ++ tL 1)) = x.map (·.2)) := by unfold Hid; rw [utfK, HX.out]
          have hx0 := fun wv : World => (index4 wv ⟨#[]⟩ ⟨#[128]⟩ ⟨#[144]⟩ ⟨#[160]⟩).2.2.1
          simp only [Int.natCast_zero] at hF
          cases x with
          | none =>
            simp only [FirstE] at hF
            go_wp2_with (go_at_call 93; go_must (refine (hF _).mono ?_); rintro e w1 ⟨rfl, rfl⟩)
            exact ⟨⟨2 + 1, by decide, rfl, HTJ.out.next HK.out, Lib.hid trivial⟩, by simp [intOf]⟩
          | some x =>
            obtain ⟨r, kk⟩ := x
            simp only [FirstE] at hF
            have hlk : leadK b = some kk := utfK_lead HK.out
            have hk4 : kk ≤ 4 := (utfK_pos HK.out).2.2
            have HFS := Lib.hid (first_some HBL.out hlk (n := n))
            have hkw : IntKind.u64.wrap (kk : Int) = (kk : Int) := by rw [IntKind.wrap_u64]; omega
            by_cases hgt : n < kk
            · have hg2 : (kk : Int) > (n : Int) := by omega
              rw [if_pos hgt] at HFS
              go_wp2_with (go_at_call 93; go_must (refine (hF _).mono ?_); rintro e w1 ⟨rfl, rfl⟩)
              go_ret2
              rw [HFS.out]
              exact ⟨rfl, Keep.refl _ _⟩
            · have hg2 : ¬ (kk : Int) > (n : Int) := by omega
              rw [if_neg hgt] at HFS
              have hW := HW9.out kk hk4
              obtain ⟨y, HY⟩ : ∃ y, Hid (withinN (bl s) kk 4 1 = y) := ⟨_, Lib.hid rfl⟩
              rw [HY.out] at HFS hW
              cases y with
              | none =>
                simp only [WithinE] at hW
                go_wp2_with (first | (go_at_call 93; go_must (refine (hF _).mono ?_); rintro e w1 ⟨rfl, rfl⟩) | (go_at_call 127; go_must (refine (hW _).mono ?_); rintro e w2 ⟨rfl, hk2⟩))
                go_ret2
                rw [HFS.out]
                exact ⟨rfl, hk2⟩
              | some y =>
                simp only [WithinE] at hW
                go_wp2_with (first | (go_at_call 93; go_must (refine (hF _).mono ?_); rintro e w1 ⟨rfl, rfl⟩) | (go_at_call 127; go_must (refine (hW _).mono ?_); rintro e w2 ⟨rfl, hk2⟩))
                go_ret2
                rw [HFS.out]
                exact ⟨rfl, hk2⟩
        · have hF := fun wv => utfFirst_ok (s.extract 0 1 ++ ⟨#[160]⟩ ++ ⟨#[128]⟩) 0 (size_app3 s _ _ HS.out (by decide) (by decide)) (by decide) wv
          have hbl : bl (s.extract 0 1 ++ ⟨#[160]⟩ ++ ⟨#[128]⟩) = b :: (cL 3 ++ tL 1) := by rw [bl_app, bl_app, HBL1.out]; rfl
          rw [hbl, List.drop_zero] at hF
          obtain ⟨x, HX⟩ : ∃ x, Hid (utfN (b :: (cL 3 ++ tL 1)) = x) := ⟨_, Lib.hid rfl⟩
          rw [HX.out] at hF
          have HK : Hid (utfK (b :: (cL 3 ++ tL 1)) = x.map (·.2)) := by unfold Hid; rw [utfK, HX.out]
          have hx0 := fun wv : World => (index4 wv ⟨#[]⟩ ⟨#[128]⟩ ⟨#[144]⟩ ⟨#[160]⟩).2.2.2
          simp only [Int.natCast_zero] at hF
          cases x with
          | none =>
            simp only [FirstE] at hF
            go_wp2_with (go_at_call 93; go_must (refine (hF _).mono ?_); rintro e w1 ⟨rfl, rfl⟩)
            exact ⟨⟨3 + 1, by decide, rfl, HTJ.out.next HK.out, Lib.hid trivial⟩, by simp [intOf]⟩
          | some x =>
            obtain ⟨r, kk⟩ := x
            simp only [FirstE] at hF
            have hlk : leadK b = some kk := utfK_lead HK.out
            have hk4 : kk ≤ 4 := (utfK_pos HK.out).2.2
            have HFS := Lib.hid (first_some HBL.out hlk (n := n))
            have hkw : IntKind.u64.wrap (kk : Int) = (kk : Int) := by rw [IntKind.wrap_u64]; omega
            by_cases hgt : n < kk
            · have hg2 : (kk : Int) > (n : Int) := by omega
              rw [if_pos hgt] at HFS
              go_wp2_with (go_at_call 93; go_must (refine (hF _).mono ?_); rintro e w1 ⟨rfl, rfl⟩)
              go_ret2
              rw [HFS.out]
              exact ⟨rfl, Keep.refl _ _⟩
            · have hg2 : ¬ (kk : Int) > (n : Int) := by omega
              rw [if_neg hgt] at HFS
              have hW := HW9.out kk hk4
              obtain ⟨y, HY⟩ : ∃ y, Hid (withinN (bl s) kk 4 1 = y) := ⟨_, Lib.hid rfl⟩
              rw [HY.out] at HFS hW
              cases y with
              | none =>
                simp only [WithinE] at hW
                go_wp2_with (first | (go_at_call 93; go_must (refine (hF _).mono ?_); rintro e w1 ⟨rfl, rfl⟩) | (go_at_call 127; go_must (refine (hW _).mono ?_); rintro e w2 ⟨rfl, hk2⟩))
                go_ret2
                rw [HFS.out]
                exact ⟨rfl, hk2⟩
              | some y =>
                simp only [WithinE] at hW
                go_wp2_with (first | (go_at_call 93; go_must (refine (hF _).mono ?_); rintro e w1 ⟨rfl, rfl⟩) | (go_at_call 127; go_must (refine (hW _).mono ?_); rintro e w2 ⟨rfl, hk2⟩))
                go_ret2
                rw [HFS.out]
                exact ⟨rfl, hk2⟩
    · have hx0 := fun wv : World => (index4 wv ⟨#[]⟩ ⟨#[128]⟩ ⟨#[128, 128]⟩ ⟨#[128, 128, 128]⟩).2.2.1
      obtain ⟨wo, rfl⟩ : ∃ wo : World, wo = wr := ⟨_, rfl⟩
      go_wp2_with (fail)
      clear hx0
      go_loopw [18] (fun u18 wv => ∃ j : Nat, j ≤ 4 ∧ u18 = .int .i64 (j : Int) ∧ Hid (Tried b 2 j) ∧ Hid (wv = wo)) (fun u18 _ => 4 - (intOf u18).toNat)
      case atStart => exact ⟨0, by decide, rfl, HT, Lib.hid rfl⟩
      case round =>
        obtain ⟨j, hj, rfl, HTJ, HV⟩ := hrel
        have HV2 := HV.out
        subst HV2
        by_cases hj4 : j = 4
        · subst hj4
          go_wp2_with (fail)
          exact ⟨⟨2 + 1, by decide, rfl, HTJ.out.row, Lib.hid trivial⟩, by simp [intOf]⟩
        rcases (show j = 0 ∨ j = 1 ∨ j = 2 ∨ j = 3 by omega) with rfl | rfl | rfl | rfl
        · have hF := fun wv => utfFirst_ok (s.extract 0 1 ++ ⟨#[]⟩ ++ ⟨#[128, 128]⟩) 0 (size_app3 s _ _ HS.out (by decide) (by decide)) (by decide) wv
          have hbl : bl (s.extract 0 1 ++ ⟨#[]⟩ ++ ⟨#[128, 128]⟩) = b :: (cL 0 ++ tL 2) := by rw [bl_app, bl_app, HBL1.out]; rfl
          rw [hbl, List.drop_zero] at hF
          obtain ⟨x, HX⟩ : ∃ x, Hid (utfN (b :: (cL 0 ++ tL 2)) = x) := ⟨_, Lib.hid rfl⟩
          rw [HX.out] at hF
          have HK : Hid (utfK (b :: (cL 0 ++ tL 2)) = x.map (·.2)) := by unfold Hid; rw [utfK, HX.out]
          have hx0 := fun wv : World => (index4 wv ⟨#[]⟩ ⟨#[128]⟩ ⟨#[144]⟩ ⟨#[160]⟩).1
          simp only [Int.natCast_zero] at hF
          cases x with
          | none =>
            simp only [FirstE] at hF
            go_wp2_with (go_at_call 93; go_must (refine (hF _).mono ?_); rintro e w1 ⟨rfl, rfl⟩)
            exact ⟨⟨0 + 1, by decide, rfl, HTJ.out.next HK.out, Lib.hid trivial⟩, by simp [intOf]⟩
          | some x =>
            obtain ⟨r, kk⟩ := x
            simp only [FirstE] at hF
            have hlk : leadK b = some kk := utfK_lead HK.out
            have hk4 : kk ≤ 4 := (utfK_pos HK.out).2.2
            have HFS := Lib.hid (first_some HBL.out hlk (n := n))
            have hkw : IntKind.u64.wrap (kk : Int) = (kk : Int) := by rw [IntKind.wrap_u64]; omega
            by_cases hgt : n < kk
            · have hg2 : (kk : Int) > (n : Int) := by omega
              rw [if_pos hgt] at HFS
              go_wp2_with (go_at_call 93; go_must (refine (hF _).mono ?_); rintro e w1 ⟨rfl, rfl⟩)
              go_ret2
              rw [HFS.out]
              exact ⟨rfl, Keep.refl _ _⟩
            · have hg2 : ¬ (kk : Int) > (n : Int) := by omega
              rw [if_neg hgt] at HFS
              have hW := HW9.out kk hk4
              obtain ⟨y, HY⟩ : ∃ y, Hid (withinN (bl s) kk 4 1 = y) := ⟨_, Lib.hid rfl⟩
              rw [HY.out] at HFS hW
              cases y with
              | none =>
                simp only [WithinE] at hW
                go_wp2_with (first | (go_at_call 93; go_must (refine (hF _).mono ?_); rintro e w1 ⟨rfl, rfl⟩) | (go_at_call 127; go_must (refine (hW _).mono ?_); rintro e w2 ⟨rfl, hk2⟩))
                go_ret2
                rw [HFS.out]
                exact ⟨rfl, hk2⟩
              | some y =>
                simp only [WithinE] at hW
                go_wp2_with (first | (go_at_call 93; go_must (refine (hF _).mono ?_); rintro e w1 ⟨rfl, rfl⟩) | (go_at_call 127; go_must (refine (hW _).mono ?_); rintro e w2 ⟨rfl, hk2⟩))
                go_ret2
                rw [HFS.out]
                exact ⟨rfl, hk2⟩
        · have hF := fun wv => utfFirst_ok (s.extract 0 1 ++ ⟨#[128]⟩ ++ ⟨#[128, 128]⟩) 0 (size_app3 s _ _ HS.out (by decide) (by decide)) (by decide) wv
          have hbl : bl (s.extract 0 1 ++ ⟨#[128]⟩ ++ ⟨#[128, 128]⟩) = b :: (cL 1 ++ tL 2) := by rw [bl_app, bl_app, HBL1.out]; rfl
          rw [hbl, List.drop_zero] at hF
          obtain ⟨x, HX⟩ : ∃ x, Hid (utfN (b :: (cL 1 ++ tL 2)) = x) := ⟨_, Lib.hid rfl⟩
          rw [HX.out] at hF
          have HK : Hid (utfK (b :: (cL 1 ++ tL 2)) = x.map (·.2)) := by unfold Hid; rw [utfK, HX.out]
          have hx0 := fun wv : World => (index4 wv ⟨#[]⟩ ⟨#[128]⟩ ⟨#[144]⟩ ⟨#[160]⟩).2.1
          simp only [Int.natCast_zero] at hF
          cases x with
          | none =>
            simp only [FirstE] at hF
            go_wp2_with (go_at_call 93; go_must (refine (hF _).mono ?_); rintro e w1 ⟨rfl, rfl⟩)
            exact ⟨⟨1 + 1, by decide, rfl, HTJ.out.next HK.out, Lib.hid trivial⟩, by simp [intOf]⟩
          | some x =>
            obtain ⟨r, kk⟩ := x
            simp only [FirstE] at hF
            have hlk : leadK b = some kk := utfK_lead HK.out
            have hk4 : kk ≤ 4 := (utfK_pos HK.out).2.2
            have HFS := Lib.hid (first_some HBL.out hlk (n := n))
            have hkw : IntKind.u64.wrap (kk : Int) = (kk : Int) := by rw [IntKind.wrap_u64]; omega
            by_cases hgt : n < kk
            · have hg2 : (kk : Int) > (n : Int) := by omega
              rw [if_pos hgt] at HFS
              go_wp2_with (go_at_call 93; go_must (refine (hF _).mono ?_); rintro e w1 ⟨rfl, rfl⟩)
              go_ret2
              rw [HFS.out]
              exact ⟨rfl, Keep.refl _ _⟩
            · have hg2 : ¬ (kk : Int) > (n : Int) := by omega
              rw [if_neg hgt] at HFS
              have hW := HW9.out kk hk4
              obtain ⟨y, HY⟩ : ∃ y, Hid (withinN (bl s) kk 4 1 = y) := ⟨_, Lib.hid rfl⟩
              rw [HY.out] at HFS hW
              cases y with
              | none =>
                simp only [WithinE] at hW
                go_wp2_with (first | (go_at_call 93; go_must (refine (hF _).mono ?_); rintro e w1 ⟨rfl, rfl⟩) | (go_at_call 127; go_must (refine (hW _).mono ?_); rintro e w2 ⟨rfl, hk2⟩))
                go_ret2
                rw [HFS.out]
                exact ⟨rfl, hk2⟩
              | some y =>
                simp only [WithinE] at hW
                go_wp2_with (first | (go_at_call 93; go_must (refine (hF _).mono ?_); rintro e w1 ⟨rfl, rfl⟩) | (go_at_call 127; go_must (refine (hW _).mono ?_); rintro e w2 ⟨rfl, hk2⟩))
                go_ret2
                rw [HFS.out]
                exact ⟨rfl, hk2⟩
        · have hF := fun wv => utfFirst_ok (s.extract 0 1 ++ ⟨#[144]⟩ ++ ⟨#[128, 128]⟩) 0 (size_app3 s _ _ HS.out (by decide) (by decide)) (by decide) wv
          have hbl : bl (s.extract 0 1 ++ ⟨#[144]⟩ ++ ⟨#[128, 128]⟩) = b :: (cL 2 ++ tL 2) := by rw [bl_app, bl_app, HBL1.out]; rfl
          rw [hbl, List.drop_zero] at hF
          obtain ⟨x, HX⟩ : ∃ x, Hid (utfN (b :: (cL 2 ++ tL 2)) = x) := ⟨_, Lib.hid rfl⟩
          rw [HX.out] at hF
          have HK : Hid (utfK (b :: (cL 2 ++ tL 2)) = x.map (·.2)) := by unfold Hid; rw [utfK, HX.out]
          have hx0 := fun wv : World => (index4 wv ⟨#[]⟩ ⟨#[128]⟩ ⟨#[144]⟩ ⟨#[160]⟩).2.2.1
          simp only [Int.natCast_zero] at hF
          cases x with
          | none =>
            simp only [FirstE] at hF
            go_wp2_with (go_at_call 93; go_must (refine (hF _).mono ?_); rintro e w1 ⟨rfl, rfl⟩)
            exact ⟨⟨2 + 1, by decide, rfl, HTJ.out.next HK.out, Lib.hid trivial⟩, by simp [intOf]⟩
          | some x =>
            obtain ⟨r, kk⟩ := x
            simp only [FirstE] at hF
            have hlk : leadK b = some kk := utfK_lead HK.out
            have hk4 : kk ≤ 4 := (utfK_pos HK.out).2.2
            have HFS := Lib.hid (first_some HBL.out hlk (n := n))
            have hkw : IntKind.u64.wrap (kk : Int) = (kk : Int) := by rw [IntKind.wrap_u64]; omega
            by_cases hgt : n < kk
            · have hg2 : (kk : Int) > (n : Int) := by omega
              rw [if_pos hgt] at HFS
              go_wp2_with (go_at_call 93; go_must (refine (hF _).mono ?_); rintro e w1 ⟨rfl, rfl⟩)
              go_ret2
              rw [HFS.out]
              exact ⟨rfl, Keep.refl _ _⟩
            · have hg2 : ¬ (kk : Int) > (n : Int) := by omega
              rw [if_neg hgt] at HFS
              have hW := HW9.out kk hk4
              obtain ⟨y, HY⟩ : ∃ y, Hid (withinN (bl s) kk 4 1 = y) := ⟨_, Lib.hid rfl⟩
              rw [HY.out] at HFS hW
              cases y with
              | none =>
                simp only [WithinE] at hW
                go_wp2_with (first | (go_at_call 93; go_must (refine (hF _).mono ?_); rintro e w1 ⟨rfl, rfl⟩) | (go_at_call 127; go_must (refine (hW _).mono ?_); rintro e w2 ⟨rfl, hk2⟩))
                go_ret2
                rw [HFS.out]
                exact ⟨rfl, hk2⟩
              | some y =>
                simp only [WithinE] at hW
                go_wp2_with (first | (go_at_call 93; go_must (refine (hF _).mono ?_); rintro e w1 ⟨rfl, rfl⟩) | (go_at_call 127; go_must (refine (hW _).mono ?_); rintro e w2 ⟨rfl, hk2⟩))
                go_ret2
                rw [HFS.out]
                exact ⟨rfl, hk2⟩
        · have hF := fun wv => utfFirst_ok (s.extract 0 1 ++ ⟨#[160]⟩ ++ ⟨#[128, 128]⟩) 0 (size_app3 s _ _ HS.out (by decide) (by decide)) (by decide) wv
          have hbl : bl (s.extract 0 1 ++ ⟨#[160]⟩ ++ ⟨#[128, 128]⟩) = b :: (cL 3 ++ tL 2) := by rw [bl_app, bl_app, HBL1.out]; rfl
          rw [hbl, List.drop_zero] at hF
          obtain ⟨x, HX⟩ : ∃ x, Hid (utfN (b :: (cL 3 ++ tL 2)) = x) := ⟨_, Lib.hid rfl⟩
          rw [HX.out] at hF
          have HK : Hid (utfK (b :: (cL 3 ++ tL 2)) = x.map (·.2)) := by unfold Hid; rw [utfK, HX.out]
          have hx0 := fun wv : World => (index4 wv ⟨#[]⟩ ⟨#[128]⟩ ⟨#[144]⟩ ⟨#[160]⟩).2.2.2
          simp only [Int.natCast_zero] at hF
          cases x with
          | none =>
            simp only [FirstE] at hF
            go_wp2_with (go_at_call 93; go_must (refine (hF _).mono ?_); rintro e w1 ⟨rfl, rfl⟩)
            exact ⟨⟨3 + 1, by decide, rfl, HTJ.out.next HK.out, Lib.hid trivial⟩, by simp [intOf]⟩
          | some x =>
            obtain ⟨r, kk⟩ := x
            simp only [FirstE] at hF
            have hlk : leadK b = some kk := utfK_lead HK.out
            have hk4 : kk ≤ 4 := (utfK_pos HK.out).2.2
            have HFS := Lib.hid (first_some HBL.out hlk (n := n))
            have hkw : IntKind.u64.wrap (kk : Int) = (kk : Int) := by rw [IntKind.wrap_u64]; omega
            by_cases hgt : n < kk
            · have hg2 : (kk : Int) > (n : Int) := by omega
              rw [if_pos hgt] at HFS
              go_wp2_with (go_at_call 93; go_must (refine (hF _).mono ?_); rintro e w1 ⟨rfl, rfl⟩)
              go_ret2
              rw [HFS.out]
              exact ⟨rfl, Keep.refl _ _⟩
            · have hg2 : ¬ (kk : Int) > (n : Int) := by omega
              rw [if_neg hgt] at HFS
              have hW := HW9.out kk hk4
              obtain ⟨y, HY⟩ : ∃ y, Hid (withinN (bl s) kk 4 1 = y) := ⟨_, Lib.hid rfl⟩
              rw [HY.out] at HFS hW
              cases y with
              | none =>
                simp only [WithinE] at hW
                go_wp2_with (first | (go_at_call 93; go_must (refine (hF _).mono ?_); rintro e w1 ⟨rfl, rfl⟩) | (go_at_call 127; go_must (refine (hW _).mono ?_); rintro e w2 ⟨rfl, hk2⟩))
                go_ret2
                rw [HFS.out]
                exact ⟨rfl, hk2⟩
              | some y =>
                simp only [WithinE] at hW
                go_wp2_with (first | (go_at_call 93; go_must (refine (hF _).mono ?_); rintro e w1 ⟨rfl, rfl⟩) | (go_at_call 127; go_must (refine (hW _).mono ?_); rintro e w2 ⟨rfl, hk2⟩))
                go_ret2
                rw [HFS.out]
                exact ⟨rfl, hk2⟩
    · have hx0 := fun wv : World => (index4 wv ⟨#[]⟩ ⟨#[128]⟩ ⟨#[128, 128]⟩ ⟨#[128, 128, 128]⟩).2.2.2
      obtain ⟨wo, rfl⟩ : ∃ wo : World, wo = wr := ⟨_, rfl⟩
      go_wp2_with (fail)
      clear hx0
      go_loopw [18] (fun u18 wv => ∃ j : Nat, j ≤ 4 ∧ u18 = .int .i64 (j : Int) ∧ Hid (Tried b 3 j) ∧ Hid (wv = wo)) (fun u18 _ => 4 - (intOf u18).toNat)
      case atStart => exact ⟨0, by decide, rfl, HT, Lib.hid rfl⟩
      case round =>
        obtain ⟨j, hj, rfl, HTJ, HV⟩ := hrel
        have HV2 := HV.out
        subst HV2
        by_cases hj4 : j = 4
        · subst hj4
          go_wp2_with (fail)
          exact ⟨⟨3 + 1, by decide, rfl, HTJ.out.row, Lib.hid trivial⟩, by simp [intOf]⟩
        rcases (show j = 0 ∨ j = 1 ∨ j = 2 ∨ j = 3 by omega) with rfl | rfl | rfl | rfl
        · have hF := fun wv => utfFirst_ok (s.extract 0 1 ++ ⟨#[]⟩ ++ ⟨#[128, 128, 128]⟩) 0 (size_app3 s _ _ HS.out (by decide) (by decide)) (by decide) wv
          have hbl : bl (s.extract 0 1 ++ ⟨#[]⟩ ++ ⟨#[128, 128, 128]⟩) = b :: (cL 0 ++ tL 3) := by rw [bl_app, bl_app, HBL1.out]; rfl
          rw [hbl, List.drop_zero] at hF
          obtain ⟨x, HX⟩ : ∃ x, Hid (utfN (b :: (cL 0 ++ tL 3)) = x) := ⟨_, Lib.hid rfl⟩
          rw [HX.out] at hF
          have HK : Hid (utfK (b :: (cL 0 ++ tL 3)) = x.map (·.2)) := by unfold Hid; rw [utfK, HX.out]
          have hx0 := fun wv : World => (index4 wv ⟨#[]⟩ ⟨#[128]⟩ ⟨#[144]⟩ ⟨#[160]⟩).1
          simp only [Int.natCast_zero] at hF
          cases x with
          | none =>
            simp only [FirstE] at hF
            go_wp2_with (go_at_call 93; go_must (refine (hF _).mono ?_); rintro e w1 ⟨rfl, rfl⟩)
            exact ⟨⟨0 + 1, by decide, rfl, HTJ.out.next HK.out, Lib.hid trivial⟩, by simp [intOf]⟩
          | some x =>
            obtain ⟨r, kk⟩ := x
            simp only [FirstE] at hF
            have hlk : leadK b = some kk := utfK_lead HK.out
            have hk4 : kk ≤ 4 := (utfK_pos HK.out).2.2
            have HFS := Lib.hid (first_some HBL.out hlk (n := n))
            have hkw : IntKind.u64.wrap (kk : Int) = (kk : Int) := by rw [IntKind.wrap_u64]; omega
            by_cases hgt : n < kk
            · have hg2 : (kk : Int) > (n : Int) := by omega
              rw [if_pos hgt] at HFS
              go_wp2_with (go_at_call 93; go_must (refine (hF _).mono ?_); rintro e w1 ⟨rfl, rfl⟩)
              go_ret2
              rw [HFS.out]
              exact ⟨rfl, Keep.refl _ _⟩
            · have hg2 : ¬ (kk : Int) > (n : Int) := by omega
              rw [if_neg hgt] at HFS
              have hW := HW9.out kk hk4
              obtain ⟨y, HY⟩ : ∃ y, Hid (withinN (bl s) kk 4 1 = y) := ⟨_, Lib.hid rfl⟩
              rw [HY.out] at HFS hW
              cases y with
              | none =>
                simp only [WithinE] at hW
                go_wp2_with (first | (go_at_call 93; go_must (refine (hF _).mono ?_); rintro e w1 ⟨rfl, rfl⟩) | (go_at_call 127; go_must (refine (hW _).mono ?_); rintro e w2 ⟨rfl, hk2⟩))
                go_ret2
                rw [HFS.out]
                exact ⟨rfl, hk2⟩
              | some y =>
                simp only [WithinE] at hW
                go_wp2_with (first | (go_at_call 93; go_must (refine (hF _).mono ?_); rintro e w1 ⟨rfl, rfl⟩) | (go_at_call 127; go_must (refine (hW _).mono ?_); rintro e w2 ⟨rfl, hk2⟩))
                go_ret2
                rw [HFS.out]
                exact ⟨rfl, hk2⟩
        · have hF := fun wv => utfFirst_ok (s.extract 0 1 ++ ⟨#[128]⟩ ++ ⟨#[128, 128, 128]⟩) 0 (size_app3 s _ _ HS.out (by decide) (by decide)) (by decide) wv
          have hbl : bl (s.extract 0 1 ++ ⟨#[128]⟩ ++ ⟨#[128, 128, 128]⟩) = b :: (cL 1 ++ tL 3) := by rw [bl_app, bl_app, HBL1.out]; rfl
          rw [hbl, List.drop_zero] at hF
          obtain ⟨x, HX⟩ : ∃ x, Hid (utfN (b :: (cL 1 ++ tL 3)) = x) := ⟨_, Lib.hid rfl⟩
          rw [HX.out] at hF
          have HK : Hid (utfK (b :: (cL 1 ++ tL 3)) = x.map (·.2)) := by unfold Hid; rw [utfK, HX.out]
          have hx0 := fun wv : World => (index4 wv ⟨#[]⟩ ⟨#[128]⟩ ⟨#[144]⟩ ⟨#[160]⟩).2.1
          simp only [Int.natCast_zero] at hF
          cases x with
          | none =>
            simp only [FirstE] at hF
            go_wp2_with (go_at_call 93; go_must (refine (hF _).mono ?_); rintro e w1 ⟨rfl, rfl⟩)
            exact ⟨⟨1 + 1, by decide, rfl, HTJ.out.next HK.out, Lib.hid trivial⟩, by simp [intOf]⟩
          | some x =>
            obtain ⟨r, kk⟩ := x
            simp only [FirstE] at hF
            have hlk : leadK b = some kk := utfK_lead HK.out
            have hk4 : kk ≤ 4 := (utfK_pos HK.out).2.2
            have HFS := Lib.hid (first_some HBL.out hlk (n := n))
            have hkw : IntKind.u64.wrap (kk : Int) = (kk : Int) := by rw [IntKind.wrap_u64]; omega
            by_cases hgt : n < kk
            · have hg2 : (kk : Int) > (n : Int) := by omega
              rw [if_pos hgt] at HFS
              go_wp2_with (go_at_call 93; go_must (refine (hF _).mono ?_); rintro e w1 ⟨rfl, rfl⟩)
              go_ret2
              rw [HFS.out]
              exact ⟨rfl, Keep.refl _ _⟩
            · have hg2 : ¬ (kk : Int) > (n : Int) := by omega
              rw [if_neg hgt] at HFS
              have hW := HW9.out kk hk4
              obtain ⟨y, HY⟩ : ∃ y, Hid (withinN (bl s) kk 4 1 = y) := ⟨_, Lib.hid rfl⟩
              rw [HY.out] at HFS hW
              cases y with
              | none =>
                simp only [WithinE] at hW
                go_wp2_with (first | (go_at_call 93; go_must (refine (hF _).mono ?_); rintro e w1 ⟨rfl, rfl⟩) | (go_at_call 127; go_must (refine (hW _).mono ?_); rintro e w2 ⟨rfl, hk2⟩))
                go_ret2
                rw [HFS.out]
                exact ⟨rfl, hk2⟩
              | some y =>
                simp only [WithinE] at hW
                go_wp2_with (first | (go_at_call 93; go_must (refine (hF _).mono ?_); rintro e w1 ⟨rfl, rfl⟩) | (go_at_call 127; go_must (refine (hW _).mono ?_); rintro e w2 ⟨rfl, hk2⟩))
                go_ret2
                rw [HFS.out]
                exact ⟨rfl, hk2⟩
        · have hF := fun wv => utfFirst_ok (s.extract 0 1 ++ ⟨#[144]⟩ ++ ⟨#[128, 128, 128]⟩) 0 (size_app3 s _ _ HS.out (by decide) (by decide)) (by decide) wv
          have hbl : bl (s.extract 0 1 ++ ⟨#[144]⟩ ++ ⟨#[128, 128, 128]⟩) = b :: (cL 2 ++ tL 3) := by rw [bl_app, bl_app, HBL1.out]; rfl
          rw [hbl, List.drop_zero] at hF
          obtain ⟨x, HX⟩ : ∃ x, Hid (utfN (b :: (cL 2 ++ tL 3)) = x) := ⟨_, Lib.hid rfl⟩
          rw [HX.out] at hF
          have HK : Hid (utfK (b :: (cL 2 ++ tL 3)) = x.map (·.2)) := by unfold Hid; rw [utfK, HX.out]
          have hx0 := fun wv : World => (index4 wv ⟨#[]⟩ ⟨#[128]⟩ ⟨#[144]⟩ ⟨#[160]⟩).2.2.1
          simp only [Int.natCast_zero] at hF
          cases x with
          | none =>
            simp only [FirstE] at hF
            go_wp2_with (go_at_call 93; go_must (refine (hF _).mono ?_); rintro e w1 ⟨rfl, rfl⟩)
            exact ⟨⟨2 + 1, by decide, rfl, HTJ.out.next HK.out, Lib.hid trivial⟩, by simp [intOf]⟩
          | some x =>
            obtain ⟨r, kk⟩ := x
            simp only [FirstE] at hF
            have hlk : leadK b = some kk := utfK_lead HK.out
            have hk4 : kk ≤ 4 := (utfK_pos HK.out).2.2
            have HFS := Lib.hid (first_some HBL.out hlk (n := n))
            have hkw : IntKind.u64.wrap (kk : Int) = (kk : Int) := by rw [IntKind.wrap_u64]; omega
            by_cases hgt : n < kk
            · have hg2 : (kk : Int) > (n : Int) := by omega
              rw [if_pos hgt] at HFS
              go_wp2_with (go_at_call 93; go_must (refine (hF _).mono ?_); rintro e w1 ⟨rfl, rfl⟩)
              go_ret2
              rw [HFS.out]
              exact ⟨rfl, Keep.refl _ _⟩
            · have hg2 : ¬ (kk : Int) > (n : Int) := by omega
              rw [if_neg hgt] at HFS
              have hW := HW9.out kk hk4
              obtain ⟨y, HY⟩ : ∃ y, Hid (withinN (bl s) kk 4 1 = y) := ⟨_, Lib.hid rfl⟩
              rw [HY.out] at HFS hW
              cases y with
              | none =>
                simp only [WithinE] at hW
                go_wp2_with (first | (go_at_call 93; go_must (refine (hF _).mono ?_); rintro e w1 ⟨rfl, rfl⟩) | (go_at_call 127; go_must (refine (hW _).mono ?_); rintro e w2 ⟨rfl, hk2⟩))
                go_ret2
                rw [HFS.out]
                exact ⟨rfl, hk2⟩
              | some y =>
                simp only [WithinE] at hW
                go_wp2_with (first | (go_at_call 93; go_must (refine (hF _).mono ?_); rintro e w1 ⟨rfl, rfl⟩) | (go_at_call 127; go_must (refine (hW _).mono ?_); rintro e w2 ⟨rfl, hk2⟩))
                go_ret2
                rw [HFS.out]
                exact ⟨rfl, hk2⟩
        · have hF := fun wv => utfFirst_ok (s.extract 0 1 ++ ⟨#[160]⟩ ++ ⟨#[128, 128, 128]⟩) 0 (size_app3 s _ _ HS.out (by decide) (by decide)) (by decide) wv
          have hbl : bl (s.extract 0 1 ++ ⟨#[160]⟩ ++ ⟨#[128, 128, 128]⟩) = b :: (cL 3 ++ tL 3) := by rw [bl_app, bl_app, HBL1.out]; rfl
          rw [hbl, List.drop_zero] at hF
          obtain ⟨x, HX⟩ : ∃ x, Hid (utfN (b :: (cL 3 ++ tL 3)) = x) := ⟨_, Lib.hid rfl⟩
          rw [HX.out] at hF
          have HK : Hid (utfK (b :: (cL 3 ++ tL 3)) = x.map (·.2)) := by unfold Hid; rw [utfK, HX.out]
          have hx0 := fun wv : World => (index4 wv ⟨#[]⟩ ⟨#[128]⟩ ⟨#[144]⟩ ⟨#[160]⟩).2.2.2
          simp only [Int.natCast_zero] at hF
          cases x with
          | none =>
            simp only [FirstE] at hF
            go_wp2_with (go_at_call 93; go_must (refine (hF _).mono ?_); rintro e w1 ⟨rfl, rfl⟩)
            exact ⟨⟨3 + 1, by decide, rfl, HTJ.out.next HK.out, Lib.hid trivial⟩, by simp [intOf]⟩
          | some x =>
            obtain ⟨r, kk⟩ := x
            simp only [FirstE] at hF
            have hlk : leadK b = some kk := utfK_lead HK.out
            have hk4 : kk ≤ 4 := (utfK_pos HK.out).2.2
            have HFS := Lib.hid (first_some HBL.out hlk (n := n))
            have hkw : IntKind.u64.wrap (kk : Int) = (kk : Int) := by rw [IntKind.wrap_u64]; omega
            by_cases hgt : n < kk
            · have hg2 : (kk : Int) > (n : Int) := by omega
              rw [if_pos hgt] at HFS
              go_wp2_with (go_at_call 93; go_must (refine (hF _).mono ?_); rintro e w1 ⟨rfl, rfl⟩)
              go_ret2
              rw [HFS.out]
              exact ⟨rfl, Keep.refl _ _⟩
            · have hg2 : ¬ (kk : Int) > (n : Int) := by omega
              rw [if_neg hgt] at HFS
              have hW := HW9.out kk hk4
              obtain ⟨y, HY⟩ : ∃ y, Hid (withinN (bl s) kk 4 1 = y) := ⟨_, Lib.hid rfl⟩
              rw [HY.out] at HFS hW
              cases y with
              | none =>
                simp only [WithinE] at hW
                go_wp2_with (first | (go_at_call 93; go_must (refine (hF _).mono ?_); rintro e w1 ⟨rfl, rfl⟩) | (go_at_call 127; go_must (refine (hW _).mono ?_); rintro e w2 ⟨rfl, hk2⟩))
                go_ret2
                rw [HFS.out]
                exact ⟨rfl, hk2⟩
              | some y =>
                simp only [WithinE] at hW
                go_wp2_with (first | (go_at_call 93; go_must (refine (hF _).mono ?_); rintro e w1 ⟨rfl, rfl⟩) | (go_at_call 127; go_must (refine (hW _).mono ?_); rintro e w2 ⟨rfl, hk2⟩))
                go_ret2
                rw [HFS.out]
                exact ⟨rfl, hk2⟩
end Go.Proofs.YtiemkfibpfndaaaGreatDoor

/- packread's family of texts. UNDER WAY. -/
namespace Go.Proofs.YtiemkfibpfndaaaGreatDoor
open Go.RowKit

/-- a scan from a place on: what is left of the fuel does not matter -/
def ScanAt (l : List Nat) (n at_ : Nat) : Option Nat := (scanN (l.length - at_) (l.drop at_) (n - at_)).map (· + at_)
theorem scan_fuel {m m' : Nat} {l : List Nat} {n : Nat} (h1 : l.length ≤ m) (h2 : l.length ≤ m') (h3 : l.length ≤ n) : scanN m l n = scanN m' l n := by
  cases h : scanN m l n with
  | some p =>
    have := (scan_app m l n [] p m' h1 (by simpa using h2) (by simpa using h3) h).1
    rw [List.append_nil] at this
    exact this.symm
  | none =>
    cases h' : scanN m' l n with
    | none => rfl
    | some p =>
      have := (scan_app m' l n [] p m h2 (by simpa using h1) (by simpa using h3) h').1
      rw [List.append_nil, h] at this
      cases this
theorem scan_at_end {l : List Nat} {n p : Nat} (h : l.length ≤ p) : ScanAt l n p = none := by
  unfold ScanAt
  rw [show l.length - p = 0 by omega]
  rfl
theorem scan_at_step {l : List Nat} {n p k : Nat} (h : p < l.length) (hn : l.length ≤ n) (hk : utfK (l.drop p) = some k) : ScanAt l n p = ScanAt l n (p + k) := by
  obtain ⟨k1, k2, _⟩ := utfK_pos hk
  rw [List.length_drop] at k2
  unfold ScanAt
  rw [show l.length - p = (l.length - p - 1) + 1 by omega]
  have hd : l.drop p ≠ [] := fun e => by
    have := congrArg List.length e
    rw [List.length_drop] at this
    simp at this
    omega
  obtain ⟨b, r, hbr⟩ := List.exists_cons_of_ne_nil hd
  have e : scanN (l.length - p - 1 + 1) (l.drop p) (n - p) = (scanN (l.length - p - 1) ((l.drop p).drop k) (n - p - k)).map (· + k) := by
    rw [hbr] at hk ⊢
    simp only [scanN, hk]
  rw [e, List.drop_drop, Option.map_map, scan_fuel (m' := l.length - (p + k)) (by rw [List.length_drop]; omega) (by rw [List.length_drop]; omega) (by rw [List.length_drop]; omega), show n - p - k = n - (p + k) by omega]
  congr 1
  funext x
  simp only [Function.comp]
  omega
theorem scan_at_bad {l : List Nat} {n p : Nat} (h : p < l.length) (hk : utfK (l.drop p) = none) : ScanAt l n p = (firstN (l.drop p) (n - p)).map (· + p) := by
  unfold ScanAt
  rw [show l.length - p = (l.length - p - 1) + 1 by omega]
  have hd : l.drop p ≠ [] := fun e => by
    have := congrArg List.length e
    rw [List.length_drop] at this
    simp at this
    omega
  obtain ⟨b, r, hbr⟩ := List.exists_cons_of_ne_nil hd
  rw [hbr] at hk ⊢
  simp only [scanN, hk]
end Go.Proofs.YtiemkfibpfndaaaGreatDoor

/- No document begins another: items. Plain Lean. -/
namespace Go.Proofs.YtiemkfibpfndaaaGreatDoor
variable (D : Words)

theorem bl_len (s : ByteArray) : (bl s).length = s.size := by simp [bl]
theorem bl_extract (s : ByteArray) (a b : Nat) : bl (s.extract a b) = ((bl s).take b).drop a := by
  simp [bl, ByteArray.data_extract, Array.toList_extract, List.map_take, List.map_drop]
  rw [List.take_drop]
  rcases Nat.le_total a b with h | h
  · rw [Nat.add_sub_cancel' h]
  · rw [List.drop_eq_nil_of_le (by rw [List.length_take]; omega), List.drop_eq_nil_of_le (by rw [List.length_take]; omega)]
theorem ex_ex (s : ByteArray) {i a b : Nat} (hb : b ≤ i) : (s.extract 0 i).extract a b = s.extract a b := by
  rw [ByteArray.extract_extract]
  congr 1 <;> omega
theorem ex_size (s : ByteArray) {i : Nat} (h : i ≤ s.size) : (s.extract 0 i).size = i := by
  rw [ByteArray.size_extract]; omega

theorem take_cl {s : ByteArray} {i p n : Nat} (hi : i ≤ s.size) (hp : p ≤ i) : Cl i (takeR (s.extract 0 i) p n) (takeR s p n) := by
  unfold takeR
  rw [ex_size s hi]
  by_cases h : s.size - p < n
  · rw [if_pos h]
    exact fun h' => by rw [if_pos (by omega)]
  · rw [if_neg h]
    refine ⟨fun h' => ?_, fun h' => ?_⟩
    · rw [if_neg (by omega), ex_ex s h']
    · rw [if_pos (by omega)]
theorem take_ge {s : ByteArray} {p n : Nat} : OkGe (p + n) (takeR s p n) := by
  unfold takeR
  split
  · trivial
  · exact Nat.le_refl _
theorem take_at {s t : ByteArray} {p n q : Nat} (h : takeR s p n = .ok t q) : p + n = q := by
  unfold takeR at h
  split at h
  · cases h
  · simp only [R.ok.injEq] at h; exact h.2
theorem text_cl {s : ByteArray} {i p n : Nat} (hi : i ≤ s.size) (hp : p ≤ i) : Cl i (textR (s.extract 0 i) p n) (textR s p n) := by
  have hw : bl ((s.extract 0 i).extract p (p + min n (i - p))) = (bl (s.extract p (p + min n (s.size - p)))).take (min n (i - p)) := by
    rw [ex_ex s (by omega), bl_extract, bl_extract, List.take_drop, List.take_take]
    congr 2
    omega
  have hl : (bl (s.extract p (p + min n (s.size - p)))).length ≤ min n (s.size - p) := by
    rw [bl_len, ByteArray.size_extract]; omega
  have none_ : (∀ q, scanN (s.size - p) (bl (s.extract p (p + min n (s.size - p)))) n = some q → min n (i - p) ≤ q) → textR (s.extract 0 i) p n = takeR (s.extract 0 i) p n := fun h => by
    unfold textR
    rw [ex_size s hi, hw, scan_none (m := s.size - p) (min n (i - p)) (by omega) (by omega) (by rw [List.length_take]; omega) h]
  cases hs : scanN (s.size - p) (bl (s.extract p (p + min n (s.size - p)))) n with
  | some q =>
    have e : textR s p n = .bad 3 (p + q) := by unfold textR; rw [hs]
    rw [e]
    intro h'
    have hq : q < n := by
      have := (scan_app _ _ n [] q (s.size - p) (by omega) (by rw [List.append_nil]; omega) (by rw [List.append_nil]; omega) hs).2
      omega
    rw [none_ (fun q' hq' => by rw [hs] at hq'; simp only [Option.some.injEq] at hq'; omega)]
    unfold takeR
    rw [ex_size s hi, if_pos (by omega)]
  | none =>
    have e : textR s p n = takeR s p n := by unfold textR; rw [hs]
    rw [e, none_ (fun q' hq' => by rw [hs] at hq'; cases hq')]
    exact take_cl hi hp
theorem text_ge {s : ByteArray} {p n : Nat} : OkGe p (textR s p n) := by
  unfold textR
  split
  · trivial
  · exact take_ge.mono (by omega)

/-- goes on, if it goes -/
def Goes (it : Nat → R V) : Prop := ∀ p, OkGe (p + 1) (it p)
def Alike (i : Nat) (it' it : Nat → R V) : Prop := ∀ p, p ≤ i → Cl i (it' p) (it p)

theorem rounds_ge {it : Nat → R V} (hg : Goes it) : ∀ n p acc, OkGe p (roundsN it n p acc)
  | 0, _, _ => Nat.le_refl _
  | n + 1, p, _ => ((hg p).mono (by omega)).bind fun _ q _ => rounds_ge hg n q _
theorem rounds_cl {i : Nat} {it' it : Nat → R V} (hg : Goes it) (ha : Alike i it' it) : ∀ n p acc, p ≤ i → Cl i (roundsN it' n p acc) (roundsN it n p acc)
  | 0, _, _, hp => Cl.ok _ hp
  | n + 1, p, _, hp => (ha p hp).bind (fun _ q _ hq => rounds_cl hg ha n q _ hq) (fun _ q _ => rounds_ge hg n q _)
theorem pairs_ge {it : Nat → R V} (hg : Goes it) : ∀ n p acc, OkGe p (pairsN D it n p acc)
  | 0, _, _ => Nat.le_refl _
  | n + 1, p, _ => ((hg p).mono (by omega)).bind fun _ q _ => by
    split
    · trivial
    · exact ((hg q).mono (by omega)).bind fun _ z _ => pairs_ge hg n z _
theorem pairs_cl {i : Nat} {it' it : Nat → R V} (hg : Goes it) (ha : Alike i it' it) : ∀ n p acc, p ≤ i → Cl i (pairsN D it' n p acc) (pairsN D it n p acc)
  | 0, _, _, hp => Cl.ok _ hp
  | n + 1, p, _, hp => (ha p hp).bind
      (fun v q hv hq => by
        have hlt : p < q := by
          have := hg p
          rw [hv] at this
          exact this
        split
        · exact Cl.bad _ (by omega)
        · exact (ha q hq).bind (fun _ z _ hz => pairs_cl hg ha n z _ hz) (fun _ z _ => pairs_ge D hg n z _))
      (fun _ q _ => by
        split
        · trivial
        · exact ((hg q).mono (by omega)).bind fun _ z _ => pairs_ge D hg n z _)

/-- what may be read within -/
def InGoes : Option (Nat → R V) → Prop
  | none => True
  | some it => Goes it
def InAlike (i : Nat) : Option (Nat → R V) → Option (Nat → R V) → Prop
  | none, none => True
  | some it', some it => Alike i it' it
  | _, _ => False
theorem fam_ge (s : ByteArray) {inner : Option (Nat → R V)} (hg : InGoes inner) (from_ : Nat) (f : Fam) (n p : Nat) : OkGe p (famR D s inner from_ f n p) := by
  cases f
  case word => exact Nat.le_refl _
  case whole => exact Nat.le_refl _
  case below => exact Nat.le_refl _
  case single => exact Nat.le_refl _
  case double => exact Nat.le_refl _
  case signed => exact (take_ge.mono (by omega)).bind fun _ _ _ => Nat.le_refl _
  case bytes => exact (take_ge.mono (by omega)).bind fun _ _ _ => Nat.le_refl _
  case ext => exact (take_ge.mono (by omega)).bind fun _ q _ => (take_ge.mono (by omega)).bind fun _ _ _ => Nat.le_refl _
  case text => exact text_ge.bind fun _ _ _ => Nat.le_refl _
  case list =>
    cases inner with
    | none => trivial
    | some it => exact (rounds_ge hg n p []).bind fun _ _ _ => Nat.le_refl _
  case pairs =>
    cases inner with
    | none => trivial
    | some it => exact (pairs_ge D hg n p []).bind fun _ _ _ => Nat.le_refl _
theorem fam_cl {s : ByteArray} {i : Nat} (hi : i ≤ s.size) {inner' inner : Option (Nat → R V)} (hg : InGoes inner) (ha : InAlike i inner' inner) {from_ : Nat} (f : Fam) (n : Nat) {p : Nat} (hf : from_ < p) (hp : p ≤ i) :
    Cl i (famR D (s.extract 0 i) inner' from_ f n p) (famR D s inner from_ f n p) := by
  cases f
  case word => exact Cl.ok _ hp
  case whole => exact Cl.ok _ hp
  case below => exact Cl.ok _ hp
  case single => exact Cl.ok _ hp
  case double => exact Cl.ok _ hp
  case signed => exact (take_cl hi hp).bind (fun _ _ _ hq => Cl.ok _ hq) (fun _ _ _ => Nat.le_refl _)
  case bytes => exact (take_cl hi hp).bind (fun _ _ _ hq => Cl.ok _ hq) (fun _ _ _ => Nat.le_refl _)
  case ext =>
    exact (take_cl hi hp).bind (fun _ _ _ hq => (take_cl hi hq).bind (fun _ _ _ hz => Cl.ok _ hz) (fun _ _ _ => Nat.le_refl _))
      (fun _ _ _ => (take_ge.mono (by omega)).bind fun _ _ _ => Nat.le_refl _)
  case text => exact (text_cl hi hp).bind (fun _ _ _ hq => Cl.ok _ hq) (fun _ _ _ => Nat.le_refl _)
  case list =>
    match inner', inner, hg, ha with
    | none, none, _, _ => exact Cl.bad _ (by omega)
    | some it', some it, hg, ha => exact (rounds_cl hg ha n p [] hp).bind (fun _ _ _ hq => Cl.ok _ hq) (fun _ _ _ => Nat.le_refl _)
  case pairs =>
    match inner', inner, hg, ha with
    | none, none, _, _ => exact Cl.bad _ (by omega)
    | some it', some it, hg, ha => exact (pairs_cl D hg ha n p [] hp).bind (fun _ _ _ hq => Cl.ok _ hq) (fun _ _ _ => Nat.le_refl _)
theorem itemF_ge (s : ByteArray) {inner : Option (Nat → R V)} (hg : InGoes inner) (p : Nat) : OkGe (p + 1) (itemF D s inner p) := by
  refine take_ge.bind fun t q hq => ?_
  split
  · trivial
  · split
    · exact fam_ge D s hg _ _ _ _
    · exact (take_ge.mono (by omega)).bind fun _ _ _ => fam_ge D s hg _ _ _ _
theorem itemF_cl {s : ByteArray} {i : Nat} (hi : i ≤ s.size) {inner' inner : Option (Nat → R V)} (hg : InGoes inner) (ha : InAlike i inner' inner) {p : Nat} (hp : p ≤ i) : Cl i (itemF D (s.extract 0 i) inner' p) (itemF D s inner p) := by
  refine (take_cl hi hp).bind (fun t q ht hq => ?_) (fun t q _ => ?_)
  · have hlt : p < q := by
      have := take_ge (s := s) (p := p) (n := 1)
      rw [ht] at this
      exact this
    split
    · exact Cl.bad _ (by omega)
    · split
      · exact fam_cl D hi hg ha _ _ hlt hq
      · refine (take_cl hi hq).bind (fun t2 z ht2 hz => fam_cl D hi hg ha _ _ ?_ hz) (fun _ _ _ => fam_ge D s hg _ _ _ _)
        have := take_at ht2
        omega
  · split
    · trivial
    · split
      · exact fam_ge D s hg _ _ _ _
      · exact (take_ge.mono (by omega)).bind fun _ _ _ => fam_ge D s hg _ _ _ _
theorem itemN_ge (s : ByteArray) : ∀ d, Goes (itemN D s d)
  | 0 => fun p => itemF_ge D s (inner := none) trivial p
  | d + 1 => fun p => itemF_ge D s (inner := some (itemN D s d)) (itemN_ge s d) p
theorem itemN_cl {s : ByteArray} {i : Nat} (hi : i ≤ s.size) : ∀ d, Alike i (itemN D (s.extract 0 i) d) (itemN D s d)
  | 0 => fun _ hp => itemF_cl D hi (inner' := none) (inner := none) trivial trivial hp
  | d + 1 => fun _ hp => itemF_cl D hi (inner' := some _) (inner := some _) (itemN_ge D s d) (itemN_cl hi d) hp
/-- where a reading ended -/
theorem itemN_le (s : ByteArray) (d p : Nat) (hp : p ≤ s.size) : match itemN D s d p with | .ok _ q => q ≤ s.size | .bad _ q => q ≤ s.size := by
  have h := itemN_cl D (s := s) (i := s.size) (Nat.le_refl _) d p hp
  have e : s.extract 0 s.size = s := by simp
  rw [e] at h
  cases hr : itemN D s d p with
  | ok v q =>
    rw [hr] at h
    refine Decidable.byContradiction fun hc => ?_
    have hc' : s.size < q := Nat.lt_of_not_le hc
    have := h.2 hc'
    cases this
  | bad c q =>
    rw [hr] at h
    refine Decidable.byContradiction fun hc => ?_
    have hc' : s.size < q := Nat.lt_of_not_le hc
    have := h (by omega)
    simp only [R.bad.injEq] at this
    omega
/-- of what is read well no beginning is; of what is refused at a place each beginning ahead of it is refused at its end -/
theorem readN_cut {s : ByteArray} {i : Nat} (hi : i ≤ s.size) : match readN D s with
    | .ok _ _ => i < s.size → readN D (s.extract 0 i) = .bad 3 i
    | .bad _ q => q ≤ s.size ∧ (i < q → readN D (s.extract 0 i) = .bad 3 i) ∧ (i = q → readN D (s.extract 0 i) = .bad 3 i ∨ ∃ v p, readN D (s.extract 0 i) = .ok v p) := by
  have h := itemN_cl D hi 128 0 (Nat.zero_le _)
  have hle := itemN_le D s 128 0 (Nat.zero_le _)
  unfold readN
  cases hr : itemN D s 128 0 with
  | ok v q =>
    rw [hr] at h hle
    have hbad : i < q → (itemN D (s.extract 0 i) 128 0).bind (fun v p => if p < (s.extract 0 i).size then R.bad 3 p else R.ok v p) = .bad 3 i := fun hlt => by
      rw [h.2 hlt]; rfl
    by_cases hq : q < s.size
    · simp only [R.bind, if_pos hq] at hbad ⊢
      refine ⟨by omega, hbad, fun e => ?_⟩
      subst e
      rw [h.1 (Nat.le_refl _), ex_size s hi]
      simp
    · simp only [R.bind, if_neg hq] at hbad ⊢
      exact fun hlt => hbad (by omega)
  | bad c q =>
    rw [hr] at h hle
    simp only [R.bind]
    refine ⟨hle, fun hlt => ?_, fun e => .inl ?_⟩
    · rw [show itemN D (s.extract 0 i) 128 0 = .bad 3 i from h (by omega)]
    · rw [show itemN D (s.extract 0 i) 128 0 = .bad 3 i from h (by omega)]
end Go.Proofs.YtiemkfibpfndaaaGreatDoor
