/- value.normal, float, rising, utf.Bad, alone: of what may be they answer true. -/
import Derived.Test.YticnefkdkkjgcaaGreatDoorPa6
namespace Go.Proofs.YticnefkdkkjgcaaGreatDoor
open Go.RowKit

set_option maxRecDepth 100000 in
theorem normal_ok (neg : Bool) (A : Option Addr) (c n : Nat) (mag : List Nat) (w : World) (hn : mag.length = n) (h : Sl EU w A c mag) (h0 : mag = [] → neg = false) (h1 : ∀ hne : mag ≠ [], mag.getLast hne ≠ 0) :
    Calls Tryz.prog 61 #[.agg #[.bool neg, .slice A n c]] w fun e w' => e = .returned (.bool true) ∧ Keep nob w w' := by
  have hle := h.le
  have hcap := h.cap
  rw [hn] at hle
  rcases Nat.eq_zero_or_pos n with hz | hz
  · subst hz
    have e : mag = [] := List.length_eq_zero_iff.1 hn
    obtain rfl := h0 e
    clear h h0 h1 hn e
    go_enter Tryz.func61, Tryz.ntmps61
    go_wp2
    go_ret
    exact ⟨rfl, (Keep.refl _ _).alloc _⟩
  · have hne : mag ≠ [] := fun e => by rw [e] at hn; simp at hn; omega
    have hx := h1 hne
    obtain ⟨b, o, rfl, -⟩ := h.at_ hne
    obtain ⟨x, HX⟩ : ∃ x, Hid (mag.getLast hne = x) := ⟨_, Lib.hid rfl⟩
    rw [HX.out] at hx
    obtain ⟨m, rfl⟩ : ∃ m, n = m + 1 := ⟨n - 1, by omega⟩
    have hc : (w.alloc (.cells #[.bool neg, .slice (some ⟨b, o, none⟩) (m + 1) c] 36)).cell? ⟨b, o + m, none⟩ = some (.int .u32 (x : Int)) :=
      sl_cell (h.keep ((Keep.refl nob w).alloc _) (fun ⟨_, _, h⟩ => h)) (by omega) (by rw [← HX.out, List.getLast_eq_getElem, List.getD_eq_getElem?_getD, List.getElem?_eq_getElem (by omega)]; simp [hn])
    have d0 : (((m + 1 : Nat) : Int) == 0) = false := by rw [beq_eq_false_iff_ne]; omega
    have d0' : ((m : Int) + 1 == 0) = false := by rw [beq_eq_false_iff_ne]; omega
    have d1 : decide (((m + 1 : Nat) : Int) > 0) = true := by rw [decide_eq_true_iff]; omega
    have d1' : decide ((m : Int) + 1 > 0) = true := by rw [decide_eq_true_iff]; omega
    have d2 : ((x : Int) == 0) = false := by rw [beq_eq_false_iff_ne]; omega
    have d3 : ((x : Int) != 0) = true := by rw [bne_iff_ne]; omega
    have j0 : (m : Int) + 1 - 1 = (m : Int) := by omega
    have j1 : IntKind.i64.wrap ((m : Int) + 1 - 1) = (m : Int) := by rw [j0, IntWalk.i64_left, IntWalk.wrap64_in _ ⟨by omega, by omega⟩]
    have j2 : IntKind.i64.wrap (m : Int) = (m : Int) := by rw [IntWalk.i64_left, IntWalk.wrap64_in _ ⟨by omega, by omega⟩]
    have q0 : (0 : Int) ≤ (m : Int) := by omega
    have q1 : (m : Int) < (m : Int) + 1 := by omega
    clear h h0 h1 hn hx
    go_enter Tryz.func61, Tryz.ntmps61
    go_wp2
    go_ret
    exact ⟨rfl, (Keep.refl _ _).alloc _⟩

set_option maxRecDepth 100000 in
theorem float_ok (x B : Nat) (hx : x < 18446744073709551616) (hf : floatB x = true) (sa : Nat → Addr) (w : World) (g : GL B sa w) : Calls Tryz.prog 62 #[.int .u64 (x : Int)] w fun e w' => e = .returned (.bool true) ∧ Keep nob w w' := by
  have HC := Lib.hid (class64_ok x B hx sa w g)
  have HI := Lib.hid (fun (W : World) (hk : Keep nob w W) => int64_ok x B hx sa W (g.keep hk (fun _ h => h.elim)))
  unfold floatB at hf
  obtain ⟨cl, HCL⟩ : ∃ cl, Hid (classN 52 11 x = cl) := ⟨_, Lib.hid rfl⟩
  rw [HCL.out] at HC hf
  clear g
  by_cases h5 : cl = 5
  · rw [if_pos h5, decide_eq_true_iff] at hf
    subst h5
    have d0 : ((x : Int) == 9221120237041090560) = true := by rw [beq_iff_eq]; omega
    clear hf
    go_enter Tryz.func62, Tryz.ntmps62
    go_wp2_with (go_at_call 88; go_must (refine HC.out.mono ?_); rintro e w1 ⟨rfl, hk1⟩)
    go_ret
    exact ⟨rfl, hk1⟩
  · rw [if_neg h5] at hf
    have d5 : ((cl : Int) == 5) = false := by rw [beq_eq_false_iff_ne]; omega
    by_cases h4 : cl = 4
    · subst h4
      clear hf h5
      go_enter Tryz.func62, Tryz.ntmps62
      go_wp2_with (go_at_call 88; go_must (refine HC.out.mono ?_); rintro e w1 ⟨rfl, hk1⟩)
      go_ret
      exact ⟨rfl, hk1⟩
    · rw [if_neg h4] at hf
      have d4 : ((cl : Int) == 4) = false := by rw [beq_eq_false_iff_ne]; omega
      have hn : intN 52 (-1074) 11 x = none := Option.isNone_iff_eq_none.1 hf
      have HI2 : Hid (∀ W, Keep nob w W → Calls Tryz.prog 72 #[.int .u64 (x : Int)] W fun e w' => e = .returned (.tuple #[.agg #[.bool false, .slice none 0 0], .bool false]) ∧ Keep nob W w') := by
        refine Lib.hid (fun W hk => (HI.out W hk).mono fun e w' h => ?_)
        rw [hn] at h
        exact ⟨h.2, h.1⟩
      clear hf h5 h4 hn HI
      go_enter Tryz.func62, Tryz.ntmps62
      go_wp2_with (first | (go_at_call 88; go_must (refine HC.out.mono ?_); rintro e w1 ⟨rfl, hk1⟩) | (go_at_call 72; go_must (refine (HI2.out _ hk1).mono ?_); rintro e w2 ⟨rfl, hk2⟩) | (with_reducible refine then_nl ?_) | (with_reducible refine in_nl ?_) | (with_reducible refine then_rt ?_) | (with_reducible refine in_rt ?_) | (with_reducible refine then_exit ?_) | (with_reducible refine in_eq ?_) | (with_reducible refine in_ne (by decide) ?_))
      go_ret
      exact ⟨rfl, (hk1.then_ hk2).alloc _⟩

/-- encodings from a place on -/
theorem good_at {l : List Nat} {m p : Nat} (h : goodF m (l.drop p) = true) (hp : p < l.length) : ∃ k m', utfK (l.drop p) = some k ∧ m = m' + 1 ∧ goodF m' (l.drop (p + k)) = true ∧ 1 ≤ k ∧ p + k ≤ l.length := by
  cases hl : l.drop p with
  | nil => have := congrArg List.length hl; rw [List.length_drop] at this; simp at this; omega
  | cons a r =>
    rw [hl] at h
    cases m with
    | zero => simp [goodF] at h
    | succ m =>
      simp only [goodF] at h
      cases hk : utfK (a :: r) with
      | none => rw [hk] at h; cases h
      | some k =>
        rw [hk] at h
        obtain ⟨h1, h2, -⟩ := utfK_pos hk
        have h3 : (a :: r).length = l.length - p := by rw [← hl, List.length_drop]
        refine ⟨k, m, rfl, rfl, ?_, h1, by omega⟩
        rw [← List.drop_drop, hl]
        exact h
set_option maxRecDepth 100000 in
theorem badutf_ok (s : ByteArray) (hs : s.size ≤ 1152921504606846976) (hg : goodT s = true) (w : World) : Calls Tryz.prog 63 #[.string s] w fun e w' => e = .returned (.int .i64 (s.size : Int)) ∧ Keep nob w w' := by
  have HS := Lib.hid hs
  have HF := Lib.hid (fun (p : Nat) (hp : p ≤ 1152921504606846976) (W : World) => utfFirst_ok s p hs hp W)
  have HG : Hid (goodF s.size ((bl s).drop 0) = true) := Lib.hid (by rw [List.drop_zero]; exact hg)
  obtain ⟨n, HN⟩ : ∃ n, Hid (s.size = n) := ⟨_, Lib.hid rfl⟩
  have HNS : Hid (n ≤ s.size) := Lib.hid (by rw [HN.out]; exact Nat.le_refl _)
  clear hg hs
  go_enter Tryz.func63, Tryz.ntmps63
  go_wp2_with (fail)
  go_loopw [3, 4, 5, 6] (fun u3 u4 u5 u6 wr => ∃ (p m : Nat), p ≤ s.size ∧ u3 = .int .i64 (p : Int) ∧ Hid (goodF m ((bl s).drop p) = true) ∧ Hid (Keep nob w wr)) (fun u3 _ _ _ _ => s.size - (intOf u3).toNat)
  case atStart => exact ⟨0, s.size, Nat.zero_le _, rfl, HG, Lib.hid (Keep.refl _ _)⟩
  case round =>
    obtain ⟨p, m, hp, rfl, HGP, HK⟩ := hrel
    rcases Nat.lt_or_ge p s.size with hlt | hge
    · have d1 : decide ((p : Int) < (s.size : Int)) = true := by rw [decide_eq_true_iff]; omega
      have d2 : decide (p < s.size) = true := by rw [decide_eq_true_iff]; exact hlt
      obtain ⟨k, m', h1, -, h3, h4, h5⟩ := good_at HGP.out (by rw [bl_len]; exact hlt)
      rw [bl_len] at h5
      have hF := HF.out p (by have := HS.out; omega) wr
      obtain ⟨z, hz, rfl⟩ := Option.map_eq_some_iff.1 h1
      have HF2 : Hid (Calls Tryz.prog 89 #[.string s, .int .i64 (p : Int)] wr fun e w' => e = .returned (.tuple #[.int .i32 (z.1 : Int), .int .i64 (z.2 : Int), .bool true]) ∧ w' = wr) := by
        refine Lib.hid (hF.mono fun e w' h => ?_)
        rw [hz] at h
        exact h
      have HG3 := Lib.hid h3
      have j1 : IntKind.i64.wrap ((p : Int) + (z.2 : Int)) = (p : Int) + (z.2 : Int) := by have := HS.out; rw [IntWalk.i64_left, IntWalk.wrap64_in _ ⟨by omega, by omega⟩]
      have H5 := Lib.hid h5
      have H4 := Lib.hid h4
      clear h1 hz hF h3 h4 h5
      go_wp2_with (go_at_call 89; go_must (refine HF2.out.mono ?_); rintro e w1 ⟨rfl, rfl⟩)
      exact ⟨⟨p + z.2, m', H5.out, rfl, HG3, HK⟩, by have := H4.out; have := H5.out; simp [intOf]; omega⟩
    · obtain rfl : p = s.size := by omega
      have d1 : decide ((s.size : Int) < (s.size : Int)) = false := by simp
      have d2 : decide (s.size < s.size) = false := by simp
      go_wp2
      go_ret
      exact ⟨rfl, HK.out⟩
set_option maxRecDepth 100000 in
set_option maxHeartbeats 1000000 in
theorem rising_ok (vs : List V) (rs : List Raw) (A : Option Addr) (c n B : Nat) (sa : Nat → Addr) (D : Nat → Prop) (w : World) (g : GL B sa w) (hn : rs.length = n) (h : Sl ER w A c rs) (ht : TrL w D rs vs) (hs : SmL vs) (hr : RiseP vs) (hmax : n ≤ 1000000000) :
    Calls Tryz.prog 64 #[.slice A n c] w fun e w' => e = .returned (.bool true) ∧ Keep nob w w' := by
  have hle := h.le
  have hcap := h.cap
  rw [hn] at hle
  have H := Lib.hid h
  have HN := Lib.hid hn
  have HV : Hid (vs.length = n) := Lib.hid (by rw [← ht.len, hn])
  have HT := Lib.hid ht
  have HS := Lib.hid hs
  have HR := Lib.hid hr
  have HG := Lib.hid g
  have hev : n % 2 = 0 := by rw [← HV.out]; exact hr.1
  have r1 : Int.tmod (n : Int) 2 = 0 := by rw [Int.tmod_eq_emod_of_nonneg (by omega)]; omega
  have HEV := Lib.hid hev
  clear h hn ht hs hr g hev
  go_enter Tryz.func64, Tryz.ntmps64
  go_wp2_with (fail)
  go_loopw [3] (fun u3 wr => ∃ (i j : Nat), i ≤ n + 2 ∧ u3 = .int .i64 (i : Int) ∧ Hid (i = 2 * j + 2) ∧ Hid (Keep nob w wr)) (fun u3 _ => n + 2 - (intOf u3).toNat)
  case atStart => exact ⟨2, 0, by omega, rfl, Lib.hid rfl, Lib.hid (Keep.refl _ _)⟩
  case round =>
    obtain ⟨i, j, hi, rfl, HIJ, HK⟩ := hrel
    rcases Nat.lt_or_ge i n with hlt | hge
    · have d1 : decide ((i : Int) < (n : Int)) = true := by rw [decide_eq_true_iff]; omega
      obtain ⟨q, HQ⟩ : ∃ q, Hid (2 * j = q) := ⟨_, Lib.hid rfl⟩
      have hiq : i = q + 2 := by have h1 := HIJ.out; have h2 := HQ.out; omega
      have j1 : IntKind.i64.wrap ((i : Int) - 2) = (q : Int) := by rw [IntWalk.i64_left, IntWalk.wrap64_in _ ⟨by omega, by omega⟩]; omega
      have j1' : (i : Int) - 2 = (q : Int) := by omega
      have j2 : IntKind.i64.wrap ((i : Int) + 2) = (i : Int) + 2 := by rw [IntWalk.i64_left, IntWalk.wrap64_in _ ⟨by omega, by omega⟩]
      have j3 : IntKind.i64.wrap (q : Int) = (q : Int) := by rw [IntWalk.i64_left, IntWalk.wrap64_in _ ⟨by omega, by omega⟩]
      have q0 : (0 : Int) ≤ (i : Int) := by omega
      have q1 : (i : Int) < (n : Int) := by omega
      have q2 : (0 : Int) ≤ (q : Int) := by omega
      have q3 : (q : Int) < (n : Int) := by omega
      have hil : i < rs.length := by rw [HN.out]; exact hlt
      have hql : q < rs.length := by rw [HN.out]; omega
      have hiv : i < vs.length := by rw [HV.out]; exact hlt
      have hqv : q < vs.length := by rw [HV.out]; omega
      obtain ⟨b, o, rfl, hx⟩ := (H.out.keep HK.out (fun ⟨_, _, h⟩ => h)).elem (i := i) hil
      obtain ⟨b', o', e', hy⟩ := (H.out.keep HK.out (fun ⟨_, _, h⟩ => h)).elem (i := q) hql
      simp only [Option.some.injEq, Addr.mk.injEq, and_true] at e'
      obtain ⟨rfl, rfl⟩ := e'
      obtain ⟨r, HRi⟩ : ∃ r, Hid (rs[i] = r) := ⟨_, Lib.hid rfl⟩
      obtain ⟨r', HRq⟩ : ∃ r', Hid (rs[q] = r') := ⟨_, Lib.hid rfl⟩
      rw [HRi.out] at hx
      rw [HRq.out] at hy
      have hx1 : wr.rangeAt b (o + i * 8) (ER.cells r) := hx
      have hy1 : wr.rangeAt b (o + q * 8) (ER.cells r') := hy
      have HCE : Hid (∀ w', Kept wr w' → w'.rangeAt b (o + i * 8) (ER.cells r) ∧ w'.rangeAt b (o + q * 8) (ER.cells r')) := Lib.hid (fun w' hk => ⟨range_keep hk hx1, range_keep hk hy1⟩)
      have hcmp : cmpV vs[q] vs[i] < 0 := by
        have h1 := HR.out.2 j (by rw [HV.out]; have h2 := HIJ.out; omega)
        rw [← HIJ.out, HQ.out, List.getD_eq_getElem?_getD, List.getD_eq_getElem?_getD, List.getElem?_eq_getElem hqv, List.getElem?_eq_getElem hiv] at h1
        exact h1
      obtain ⟨z, HZ⟩ : ∃ z, Hid (cmpV vs[q] vs[i] = z) := ⟨_, Lib.hid rfl⟩
      rw [HZ.out] at hcmp
      have d2 : decide (z ≥ 0) = false := by rw [decide_eq_false_iff_not]; omega
      have HC := Lib.hid (fun (w' : World) (hk : Kept wr w') => compare_ok B sa vs[q] vs[i] r' r D D w' (HG.out.keep (HK.out.then_ hk) (fun _ h => h.elim)) (by rw [← HRq.out]; exact Tr.keep (HK.out.then_ hk) (nobD D) _ _ (HT.out.get q hql hqv)) (by rw [← HRi.out]; exact Tr.keep (HK.out.then_ hk) (nobD D) _ _ (HT.out.get i hil hiv)) (HS.out.get q hqv) (HS.out.get i hiv))
      rw [HZ.out] at HC
      simp only [ER] at HC
      clear hx hy hx1 hy1 hcmp hiq
      go_upto_region 4 with (fail)
      refine wp_region_fx 11 [.p, .p, .p, .p, .kv, .p, .p, .p, .kv, .cv (.int .i64 z), .p] [] nob (fun _ => True) (fun _ _ _ _ => trivial) trivial (by kernel_rfl) (by kernel_rfl) (fun h => absurd rfl h) ?_
      simp only [List.take_succ_cons, List.take_zero, List.drop_succ_cons, List.drop_zero]
      refine fx_p ?_ (by rfl) (fun w' => ?_) (fun K hK => ?_); rotate_left; (go_simp; first | done | exact rfl); go_simp; refine hK _ ?_; clear hK K
      refine fx_p ?_ (by rfl) (fun w' => ?_) (fun K hK => ?_); rotate_left; (go_simp; first | done | exact rfl); go_simp; refine hK _ ?_; clear hK K
      refine fx_p ?_ (by rfl) (fun w' => ?_) (fun K hK => ?_); rotate_left; (go_simp; first | done | exact rfl); go_simp; refine hK _ ?_; clear hK K
      refine fx_p ?_ (by rfl) (fun w' => ?_) (fun K hK => ?_); rotate_left; (go_simp; first | done | exact rfl); go_simp; refine hK _ ?_; clear hK K
      refine fx_kv ?_ (by rfl) (fun w' hw' ha => ?_) (fun K hK => ?_); rotate_left; (obtain ⟨c1, c2⟩ := HCE.out w' hw'.keep; obtain ⟨a0, a1, a2, a3, a4, a5, a6, a7⟩ := cells_val' c1; obtain ⟨b0, b1, b2, b3, b4, b5, b6, b7⟩ := cells_val' c2; go_simp; first | done | exact rfl); go_simp; refine hK _ ?_; clear hK K
      refine fx_p ?_ (by rfl) (fun w' => ?_) (fun K hK => ?_); rotate_left; (go_simp; first | done | exact rfl); go_simp; refine hK _ ?_; clear hK K
      refine fx_p ?_ (by rfl) (fun w' => ?_) (fun K hK => ?_); rotate_left; (go_simp; first | done | exact rfl); go_simp; refine hK _ ?_; clear hK K
      refine fx_p ?_ (by rfl) (fun w' => ?_) (fun K hK => ?_); rotate_left; (go_simp; first | done | exact rfl); go_simp; refine hK _ ?_; clear hK K
      refine fx_kv ?_ (by rfl) (fun w' hw' ha => ?_) (fun K hK => ?_); rotate_left; (obtain ⟨c1, c2⟩ := HCE.out w' hw'.keep; obtain ⟨a0, a1, a2, a3, a4, a5, a6, a7⟩ := cells_val' c1; obtain ⟨b0, b1, b2, b3, b4, b5, b6, b7⟩ := cells_val' c2; go_simp; first | done | exact rfl); go_simp; refine hK _ ?_; clear hK K
      refine fx_cv (f := ?_) (args := ?_) (by rfl) (fun w' => ?_) (fun w' hw' ha => ?_) (fun K hK => ?_); rotate_left 2; (go_simp; first | done | (refine And.intro ?_ ?_ <;> exact rfl) | exact rfl); (exact HC.out w' hw'.keep); go_simp; refine hK _ ?_; clear hK K
      refine fx_p ?_ (by rfl) (fun w' => ?_) (fun K hK => ?_); rotate_left; (go_simp; first | done | exact rfl); go_simp; refine hK _ ?_; clear hK K
      refine fx_nil ?_
      intro w9 hk9 hΓ
      have HK9 := Lib.hid hk9.keep
      clear hk9 hΓ
      go_wp2_with (fail)
      exact ⟨⟨i + 2, j + 1, by omega, rfl, Lib.hid (by have := HIJ.out; omega), Lib.hid (HK.out.then_ HK9.out)⟩, by simp [intOf]; omega⟩
    · have d1 : decide ((i : Int) < (n : Int)) = false := by rw [decide_eq_false_iff_not]; omega
      go_wp2
      go_ret
      exact ⟨rfl, HK.out⟩
set_option maxRecDepth 100000 in
theorem simple_ok (n : Nat) (h : n < 20 ∨ n = 23 ∨ 32 ≤ n ∧ n < 256) (w : World) : Calls Tryz.prog 65 #[.int .u64 (n : Int)] w fun e w' => e = .returned (.bool true) ∧ Keep nob w w' := by
  by_cases h1 : n < 20
  · have d1 : decide ((n : Int) < 20) = true := by rw [decide_eq_true_iff]; omega
    have d2 : decide (n < 20) = true := by rw [decide_eq_true_iff]; exact h1
    clear h h1
    go_enter Tryz.func65, Tryz.ntmps65
    go_wp2
    go_ret
    exact ⟨rfl, Keep.refl _ _⟩
  · have d1 : decide ((n : Int) < 20) = false := by rw [decide_eq_false_iff_not]; omega
    have d2 : decide (n < 20) = false := by rw [decide_eq_false_iff_not]; exact h1
    by_cases h2 : n = 23
    · subst h2
      clear h h1
      go_enter Tryz.func65, Tryz.ntmps65
      go_wp2
      go_ret
      exact ⟨rfl, Keep.refl _ _⟩
    · have d3 : ((n : Int) == 23) = false := by rw [beq_eq_false_iff_ne]; omega
      have d4 : decide ((n : Int) ≥ 32) = true := by rw [decide_eq_true_iff]; omega
      have d5 : decide ((n : Int) < 256) = true := by rw [decide_eq_true_iff]; omega
      have d6 : decide (n < 256) = true := by rw [decide_eq_true_iff]; omega
      have d7 : decide (n ≥ 32) = true := by rw [decide_eq_true_iff]; omega
      clear h h1 h2
      go_enter Tryz.func65, Tryz.ntmps65
      go_wp2
      go_ret
      exact ⟨rfl, Keep.refl _ _⟩
set_option maxRecDepth 100000 in
set_option maxHeartbeats 4000000 in
theorem alone_ok {v : V} (ha : AloneP v) (r : Raw) (D : Nat → Prop) (B : Nat) (sa : Nat → Addr) (w : World) (g : GL B sa w) (ht : Tr w D r v) (hs : Sm v) (hb : ∀ k n g m b e t kids, v = .mk k n g m b e t kids → t.size ≤ 1152921504606846976) :
    Calls Tryz.prog 28 #[ER.val r] w fun e w' => e = .returned (.bool true) ∧ Keep nob w w' := by
  cases ha with
  | nul =>
    unfold V.nul at ht
    obtain ⟨rk, rn, rneg, rA, rL, rC, rbits, rext, rtext, rkA, rkL, rkC⟩ := r
    unfold Tr at ht
    obtain ⟨h0, h1, h2, h3, h4, h5, ⟨hL, hsl, -⟩, rs, hkL, hks, -, hkt⟩ := ht
    dsimp only at h0 h1 h2 h3 h4 h5 hL hsl hkL hks
    subst h0 h1 h2 h3 h4 h5 hL
    obtain rfl : rs = [] := by cases rs with
      | nil => rfl
      | cons a l => simp [TrL] at hkt
    subst hkL
    obtain ⟨x0, HX⟩ : ∃ x0, Hid (w.alloc (.cells #[.int .i8 1, .int .u64 0, .bool false, .slice rA 0 rC, .int .u64 0, .int .i8 0, .string ⟨#[]⟩, .slice rkA 0 rkC] 39) = x0) := ⟨_, Lib.hid rfl⟩
    obtain ⟨b0, HB0⟩ : ∃ b0, Hid (w.heap.size = b0) := ⟨_, Lib.hid rfl⟩
    have HK0 : Hid (Keep nob w x0) := by unfold Hid; rw [← HX.out]; exact (Keep.refl _ _).alloc _
    have HC0 : Hid (x0.rangeAt b0 0 [.int .i8 1, .int .u64 0, .bool false, .slice rA 0 rC, .int .u64 0, .int .i8 0, .string ⟨#[]⟩, .slice rkA 0 rkC]) := by unfold Hid; rw [← HX.out, ← HB0.out]; exact range_alloc_new w _ _ _ (fun j v hj => by simpa using hj)
    have HT0 : Hid (x0.there b0 0 8) := by unfold Hid; rw [← HX.out, ← HB0.out]; exact there_alloc_new w _ _ 8 (Nat.le_refl _)
    have HCE : Hid (∀ w', Kept x0 w' → ((w'.cell? ⟨b0, 0, none⟩ = some (.int .i8 1) ∧ w'.cell? ⟨b0, 1, none⟩ = some (.int .u64 0) ∧ w'.cell? ⟨b0, 2, none⟩ = some (.bool false) ∧ w'.cell? ⟨b0, 3, none⟩ = some (.slice rA 0 rC) ∧ w'.cell? ⟨b0, 4, none⟩ = some (.int .u64 0) ∧ w'.cell? ⟨b0, 5, none⟩ = some (.int .i8 0) ∧ w'.cell? ⟨b0, 6, none⟩ = some (.string ⟨#[]⟩) ∧ w'.cell? ⟨b0, 7, none⟩ = some (.slice rkA 0 rkC)) ∧
        w'.frozen? ⟨b0, 0, none⟩ = false ∧ w'.frozen? ⟨b0, 1, none⟩ = false ∧ w'.frozen? ⟨b0, 2, none⟩ = false ∧ w'.frozen? ⟨b0, 3, none⟩ = false ∧ w'.frozen? ⟨b0, 4, none⟩ = false ∧ w'.frozen? ⟨b0, 5, none⟩ = false ∧ w'.frozen? ⟨b0, 6, none⟩ = false ∧ w'.frozen? ⟨b0, 7, none⟩ = false)) := Lib.hid (fun w' hk => by
      have h1 := range_keep hk HC0.out
      obtain ⟨_, _, _, _, _, _, _, _, _, f⟩ := eight (HT0.out.keep' hk)
      exact ⟨⟨h1 0 _ rfl, h1 1 _ rfl, h1 2 _ rfl, h1 3 _ rfl, h1 4 _ rfl, h1 5 _ rfl, h1 6 _ rfl, h1 7 _ rfl⟩, f⟩)
    simp only [ER]
    clear hsl hks hkt
    go_enter Tryz.func28, Tryz.ntmps28
    go_upto_region 1 with (fail)
    rw [HX.out, HB0.out]
    obtain ⟨⟨a0, a1, a2, a3, a4, a5, a6, a7⟩, f0, f1, f2, f3, f4, f5, f6, f7⟩ := HCE.out x0 (Keep.refl _ _)
    go_upto_region 26 with (first | (with_reducible refine then_nl ?_) | (with_reducible refine in_nl ?_) | (with_reducible refine then_rt ?_) | (with_reducible refine in_rt ?_) | (with_reducible refine then_exit ?_) | (with_reducible refine in_eq ?_) | (with_reducible refine in_ne (by decide) ?_))
    go_wp2_with (fail)
    go_ret
    refine ⟨rfl, ?_⟩
    repeat (first | exact HK0.out | exact HK1.out | refine Keep.setCell ?_ (fun hlt => absurd (show b0 < w.heap.size from hlt) (by have := HB0.out; omega)) _)
  | boo n h =>
    unfold V.boo at ht
    obtain ⟨rk, rn, rneg, rA, rL, rC, rbits, rext, rtext, rkA, rkL, rkC⟩ := r
    unfold Tr at ht
    obtain ⟨h0, h1, h2, h3, h4, h5, ⟨hL, hsl, -⟩, rs, hkL, hks, -, hkt⟩ := ht
    dsimp only at h0 h1 h2 h3 h4 h5 hL hsl hkL hks
    subst h0 h1 h2 h3 h4 h5 hL
    obtain rfl : rs = [] := by cases rs with
      | nil => rfl
      | cons a l => simp [TrL] at hkt
    subst hkL
    obtain ⟨x0, HX⟩ : ∃ x0, Hid (w.alloc (.cells #[.int .i8 2, .int .u64 (rn : Int), .bool false, .slice rA 0 rC, .int .u64 0, .int .i8 0, .string ⟨#[]⟩, .slice rkA 0 rkC] 39) = x0) := ⟨_, Lib.hid rfl⟩
    obtain ⟨b0, HB0⟩ : ∃ b0, Hid (w.heap.size = b0) := ⟨_, Lib.hid rfl⟩
    have HK0 : Hid (Keep nob w x0) := by unfold Hid; rw [← HX.out]; exact (Keep.refl _ _).alloc _
    have HC0 : Hid (x0.rangeAt b0 0 [.int .i8 2, .int .u64 (rn : Int), .bool false, .slice rA 0 rC, .int .u64 0, .int .i8 0, .string ⟨#[]⟩, .slice rkA 0 rkC]) := by unfold Hid; rw [← HX.out, ← HB0.out]; exact range_alloc_new w _ _ _ (fun j v hj => by simpa using hj)
    have HT0 : Hid (x0.there b0 0 8) := by unfold Hid; rw [← HX.out, ← HB0.out]; exact there_alloc_new w _ _ 8 (Nat.le_refl _)
    have HCE : Hid (∀ w', Kept x0 w' → ((w'.cell? ⟨b0, 0, none⟩ = some (.int .i8 2) ∧ w'.cell? ⟨b0, 1, none⟩ = some (.int .u64 (rn : Int)) ∧ w'.cell? ⟨b0, 2, none⟩ = some (.bool false) ∧ w'.cell? ⟨b0, 3, none⟩ = some (.slice rA 0 rC) ∧ w'.cell? ⟨b0, 4, none⟩ = some (.int .u64 0) ∧ w'.cell? ⟨b0, 5, none⟩ = some (.int .i8 0) ∧ w'.cell? ⟨b0, 6, none⟩ = some (.string ⟨#[]⟩) ∧ w'.cell? ⟨b0, 7, none⟩ = some (.slice rkA 0 rkC)) ∧
        w'.frozen? ⟨b0, 0, none⟩ = false ∧ w'.frozen? ⟨b0, 1, none⟩ = false ∧ w'.frozen? ⟨b0, 2, none⟩ = false ∧ w'.frozen? ⟨b0, 3, none⟩ = false ∧ w'.frozen? ⟨b0, 4, none⟩ = false ∧ w'.frozen? ⟨b0, 5, none⟩ = false ∧ w'.frozen? ⟨b0, 6, none⟩ = false ∧ w'.frozen? ⟨b0, 7, none⟩ = false)) := Lib.hid (fun w' hk => by
      have h1 := range_keep hk HC0.out
      obtain ⟨_, _, _, _, _, _, _, _, _, f⟩ := eight (HT0.out.keep' hk)
      exact ⟨⟨h1 0 _ rfl, h1 1 _ rfl, h1 2 _ rfl, h1 3 _ rfl, h1 4 _ rfl, h1 5 _ rfl, h1 6 _ rfl, h1 7 _ rfl⟩, f⟩)
    simp only [ER]
    clear hsl hks hkt
    have d2 : decide ((rn : Int) < 2) = true := by rw [decide_eq_true_iff]; omega
    have d3 : decide (rn < 2) = true := by rw [decide_eq_true_iff]; exact h
    clear h
    go_enter Tryz.func28, Tryz.ntmps28
    go_upto_region 1 with (fail)
    rw [HX.out, HB0.out]
    obtain ⟨⟨a0, a1, a2, a3, a4, a5, a6, a7⟩, f0, f1, f2, f3, f4, f5, f6, f7⟩ := HCE.out x0 (Keep.refl _ _)
    go_upto_region 26 with (first | (with_reducible refine then_nl ?_) | (with_reducible refine in_nl ?_) | (with_reducible refine then_rt ?_) | (with_reducible refine in_rt ?_) | (with_reducible refine then_exit ?_) | (with_reducible refine in_eq ?_) | (with_reducible refine in_ne (by decide) ?_))
    go_wp2_with (fail)
    go_ret
    refine ⟨rfl, ?_⟩
    repeat (first | exact HK0.out | exact HK1.out | refine Keep.setCell ?_ (fun hlt => absurd (show b0 < w.heap.size from hlt) (by have := HB0.out; omega)) _)
  | byt t =>
    unfold V.byt at ht
    obtain ⟨rk, rn, rneg, rA, rL, rC, rbits, rext, rtext, rkA, rkL, rkC⟩ := r
    unfold Tr at ht
    obtain ⟨h0, h1, h2, h3, h4, h5, ⟨hL, hsl, -⟩, rs, hkL, hks, -, hkt⟩ := ht
    dsimp only at h0 h1 h2 h3 h4 h5 hL hsl hkL hks
    subst h0 h1 h2 h3 h4 h5 hL
    obtain rfl : rs = [] := by cases rs with
      | nil => rfl
      | cons a l => simp [TrL] at hkt
    subst hkL
    obtain ⟨x0, HX⟩ : ∃ x0, Hid (w.alloc (.cells #[.int .i8 6, .int .u64 0, .bool false, .slice rA 0 rC, .int .u64 0, .int .i8 0, .string rtext, .slice rkA 0 rkC] 39) = x0) := ⟨_, Lib.hid rfl⟩
    obtain ⟨b0, HB0⟩ : ∃ b0, Hid (w.heap.size = b0) := ⟨_, Lib.hid rfl⟩
    have HK0 : Hid (Keep nob w x0) := by unfold Hid; rw [← HX.out]; exact (Keep.refl _ _).alloc _
    have HC0 : Hid (x0.rangeAt b0 0 [.int .i8 6, .int .u64 0, .bool false, .slice rA 0 rC, .int .u64 0, .int .i8 0, .string rtext, .slice rkA 0 rkC]) := by unfold Hid; rw [← HX.out, ← HB0.out]; exact range_alloc_new w _ _ _ (fun j v hj => by simpa using hj)
    have HT0 : Hid (x0.there b0 0 8) := by unfold Hid; rw [← HX.out, ← HB0.out]; exact there_alloc_new w _ _ 8 (Nat.le_refl _)
    have HCE : Hid (∀ w', Kept x0 w' → ((w'.cell? ⟨b0, 0, none⟩ = some (.int .i8 6) ∧ w'.cell? ⟨b0, 1, none⟩ = some (.int .u64 0) ∧ w'.cell? ⟨b0, 2, none⟩ = some (.bool false) ∧ w'.cell? ⟨b0, 3, none⟩ = some (.slice rA 0 rC) ∧ w'.cell? ⟨b0, 4, none⟩ = some (.int .u64 0) ∧ w'.cell? ⟨b0, 5, none⟩ = some (.int .i8 0) ∧ w'.cell? ⟨b0, 6, none⟩ = some (.string rtext) ∧ w'.cell? ⟨b0, 7, none⟩ = some (.slice rkA 0 rkC)) ∧
        w'.frozen? ⟨b0, 0, none⟩ = false ∧ w'.frozen? ⟨b0, 1, none⟩ = false ∧ w'.frozen? ⟨b0, 2, none⟩ = false ∧ w'.frozen? ⟨b0, 3, none⟩ = false ∧ w'.frozen? ⟨b0, 4, none⟩ = false ∧ w'.frozen? ⟨b0, 5, none⟩ = false ∧ w'.frozen? ⟨b0, 6, none⟩ = false ∧ w'.frozen? ⟨b0, 7, none⟩ = false)) := Lib.hid (fun w' hk => by
      have h1 := range_keep hk HC0.out
      obtain ⟨_, _, _, _, _, _, _, _, _, f⟩ := eight (HT0.out.keep' hk)
      exact ⟨⟨h1 0 _ rfl, h1 1 _ rfl, h1 2 _ rfl, h1 3 _ rfl, h1 4 _ rfl, h1 5 _ rfl, h1 6 _ rfl, h1 7 _ rfl⟩, f⟩)
    simp only [ER]
    clear hsl hks hkt
    go_enter Tryz.func28, Tryz.ntmps28
    go_upto_region 1 with (fail)
    rw [HX.out, HB0.out]
    obtain ⟨⟨a0, a1, a2, a3, a4, a5, a6, a7⟩, f0, f1, f2, f3, f4, f5, f6, f7⟩ := HCE.out x0 (Keep.refl _ _)
    go_upto_region 26 with (first | (with_reducible refine then_nl ?_) | (with_reducible refine in_nl ?_) | (with_reducible refine then_rt ?_) | (with_reducible refine in_rt ?_) | (with_reducible refine then_exit ?_) | (with_reducible refine in_eq ?_) | (with_reducible refine in_ne (by decide) ?_))
    go_wp2_with (fail)
    go_ret
    refine ⟨rfl, ?_⟩
    repeat (first | exact HK0.out | exact HK1.out | refine Keep.setCell ?_ (fun hlt => absurd (show b0 < w.heap.size from hlt) (by have := HB0.out; omega)) _)
  | xt e t =>
    unfold V.xt at ht
    obtain ⟨rk, rn, rneg, rA, rL, rC, rbits, rext, rtext, rkA, rkL, rkC⟩ := r
    unfold Tr at ht
    obtain ⟨h0, h1, h2, h3, h4, h5, ⟨hL, hsl, -⟩, rs, hkL, hks, -, hkt⟩ := ht
    dsimp only at h0 h1 h2 h3 h4 h5 hL hsl hkL hks
    subst h0 h1 h2 h3 h4 h5 hL
    obtain rfl : rs = [] := by cases rs with
      | nil => rfl
      | cons a l => simp [TrL] at hkt
    subst hkL
    obtain ⟨x0, HX⟩ : ∃ x0, Hid (w.alloc (.cells #[.int .i8 11, .int .u64 0, .bool false, .slice rA 0 rC, .int .u64 0, .int .i8 rext, .string rtext, .slice rkA 0 rkC] 39) = x0) := ⟨_, Lib.hid rfl⟩
    obtain ⟨b0, HB0⟩ : ∃ b0, Hid (w.heap.size = b0) := ⟨_, Lib.hid rfl⟩
    have HK0 : Hid (Keep nob w x0) := by unfold Hid; rw [← HX.out]; exact (Keep.refl _ _).alloc _
    have HC0 : Hid (x0.rangeAt b0 0 [.int .i8 11, .int .u64 0, .bool false, .slice rA 0 rC, .int .u64 0, .int .i8 rext, .string rtext, .slice rkA 0 rkC]) := by unfold Hid; rw [← HX.out, ← HB0.out]; exact range_alloc_new w _ _ _ (fun j v hj => by simpa using hj)
    have HT0 : Hid (x0.there b0 0 8) := by unfold Hid; rw [← HX.out, ← HB0.out]; exact there_alloc_new w _ _ 8 (Nat.le_refl _)
    have HCE : Hid (∀ w', Kept x0 w' → ((w'.cell? ⟨b0, 0, none⟩ = some (.int .i8 11) ∧ w'.cell? ⟨b0, 1, none⟩ = some (.int .u64 0) ∧ w'.cell? ⟨b0, 2, none⟩ = some (.bool false) ∧ w'.cell? ⟨b0, 3, none⟩ = some (.slice rA 0 rC) ∧ w'.cell? ⟨b0, 4, none⟩ = some (.int .u64 0) ∧ w'.cell? ⟨b0, 5, none⟩ = some (.int .i8 rext) ∧ w'.cell? ⟨b0, 6, none⟩ = some (.string rtext) ∧ w'.cell? ⟨b0, 7, none⟩ = some (.slice rkA 0 rkC)) ∧
        w'.frozen? ⟨b0, 0, none⟩ = false ∧ w'.frozen? ⟨b0, 1, none⟩ = false ∧ w'.frozen? ⟨b0, 2, none⟩ = false ∧ w'.frozen? ⟨b0, 3, none⟩ = false ∧ w'.frozen? ⟨b0, 4, none⟩ = false ∧ w'.frozen? ⟨b0, 5, none⟩ = false ∧ w'.frozen? ⟨b0, 6, none⟩ = false ∧ w'.frozen? ⟨b0, 7, none⟩ = false)) := Lib.hid (fun w' hk => by
      have h1 := range_keep hk HC0.out
      obtain ⟨_, _, _, _, _, _, _, _, _, f⟩ := eight (HT0.out.keep' hk)
      exact ⟨⟨h1 0 _ rfl, h1 1 _ rfl, h1 2 _ rfl, h1 3 _ rfl, h1 4 _ rfl, h1 5 _ rfl, h1 6 _ rfl, h1 7 _ rfl⟩, f⟩)
    simp only [ER]
    clear hsl hks hkt
    go_enter Tryz.func28, Tryz.ntmps28
    go_upto_region 1 with (fail)
    rw [HX.out, HB0.out]
    obtain ⟨⟨a0, a1, a2, a3, a4, a5, a6, a7⟩, f0, f1, f2, f3, f4, f5, f6, f7⟩ := HCE.out x0 (Keep.refl _ _)
    go_upto_region 26 with (first | (with_reducible refine then_nl ?_) | (with_reducible refine in_nl ?_) | (with_reducible refine then_rt ?_) | (with_reducible refine in_rt ?_) | (with_reducible refine then_exit ?_) | (with_reducible refine in_eq ?_) | (with_reducible refine in_ne (by decide) ?_))
    go_wp2_with (fail)
    go_ret
    refine ⟨rfl, ?_⟩
    repeat (first | exact HK0.out | exact HK1.out | refine Keep.setCell ?_ (fun hlt => absurd (show b0 < w.heap.size from hlt) (by have := HB0.out; omega)) _)
  | lis l =>
    unfold V.lis at ht
    obtain ⟨rk, rn, rneg, rA, rL, rC, rbits, rext, rtext, rkA, rkL, rkC⟩ := r
    unfold Tr at ht
    obtain ⟨h0, h1, h2, h3, h4, h5, ⟨hL, hsl, -⟩, rs, hkL, hks, -, hkt⟩ := ht
    dsimp only at h0 h1 h2 h3 h4 h5 hL hsl hkL hks
    subst h0 h1 h2 h3 h4 h5 hL
    subst hkL
    obtain ⟨x0, HX⟩ : ∃ x0, Hid (w.alloc (.cells #[.int .i8 7, .int .u64 0, .bool false, .slice rA 0 rC, .int .u64 0, .int .i8 0, .string ⟨#[]⟩, .slice rkA rs.length rkC] 39) = x0) := ⟨_, Lib.hid rfl⟩
    obtain ⟨b0, HB0⟩ : ∃ b0, Hid (w.heap.size = b0) := ⟨_, Lib.hid rfl⟩
    have HK0 : Hid (Keep nob w x0) := by unfold Hid; rw [← HX.out]; exact (Keep.refl _ _).alloc _
    have HC0 : Hid (x0.rangeAt b0 0 [.int .i8 7, .int .u64 0, .bool false, .slice rA 0 rC, .int .u64 0, .int .i8 0, .string ⟨#[]⟩, .slice rkA rs.length rkC]) := by unfold Hid; rw [← HX.out, ← HB0.out]; exact range_alloc_new w _ _ _ (fun j v hj => by simpa using hj)
    have HT0 : Hid (x0.there b0 0 8) := by unfold Hid; rw [← HX.out, ← HB0.out]; exact there_alloc_new w _ _ 8 (Nat.le_refl _)
    have HCE : Hid (∀ w', Kept x0 w' → ((w'.cell? ⟨b0, 0, none⟩ = some (.int .i8 7) ∧ w'.cell? ⟨b0, 1, none⟩ = some (.int .u64 0) ∧ w'.cell? ⟨b0, 2, none⟩ = some (.bool false) ∧ w'.cell? ⟨b0, 3, none⟩ = some (.slice rA 0 rC) ∧ w'.cell? ⟨b0, 4, none⟩ = some (.int .u64 0) ∧ w'.cell? ⟨b0, 5, none⟩ = some (.int .i8 0) ∧ w'.cell? ⟨b0, 6, none⟩ = some (.string ⟨#[]⟩) ∧ w'.cell? ⟨b0, 7, none⟩ = some (.slice rkA rs.length rkC)) ∧
        w'.frozen? ⟨b0, 0, none⟩ = false ∧ w'.frozen? ⟨b0, 1, none⟩ = false ∧ w'.frozen? ⟨b0, 2, none⟩ = false ∧ w'.frozen? ⟨b0, 3, none⟩ = false ∧ w'.frozen? ⟨b0, 4, none⟩ = false ∧ w'.frozen? ⟨b0, 5, none⟩ = false ∧ w'.frozen? ⟨b0, 6, none⟩ = false ∧ w'.frozen? ⟨b0, 7, none⟩ = false)) := Lib.hid (fun w' hk => by
      have h1 := range_keep hk HC0.out
      obtain ⟨_, _, _, _, _, _, _, _, _, f⟩ := eight (HT0.out.keep' hk)
      exact ⟨⟨h1 0 _ rfl, h1 1 _ rfl, h1 2 _ rfl, h1 3 _ rfl, h1 4 _ rfl, h1 5 _ rfl, h1 6 _ rfl, h1 7 _ rfl⟩, f⟩)
    simp only [ER]
    clear hsl hks hkt
    go_enter Tryz.func28, Tryz.ntmps28
    go_upto_region 1 with (fail)
    rw [HX.out, HB0.out]
    obtain ⟨⟨a0, a1, a2, a3, a4, a5, a6, a7⟩, f0, f1, f2, f3, f4, f5, f6, f7⟩ := HCE.out x0 (Keep.refl _ _)
    go_upto_region 26 with (first | (with_reducible refine then_nl ?_) | (with_reducible refine in_nl ?_) | (with_reducible refine then_rt ?_) | (with_reducible refine in_rt ?_) | (with_reducible refine then_exit ?_) | (with_reducible refine in_eq ?_) | (with_reducible refine in_ne (by decide) ?_))
    go_wp2_with (fail)
    go_ret
    refine ⟨rfl, ?_⟩
    repeat (first | exact HK0.out | exact HK1.out | refine Keep.setCell ?_ (fun hlt => absurd (show b0 < w.heap.size from hlt) (by have := HB0.out; omega)) _)
  | int neg mag h h1 =>
    unfold V.int at ht
    obtain ⟨rk, rn, rneg, rA, rL, rC, rbits, rext, rtext, rkA, rkL, rkC⟩ := r
    unfold Tr at ht
    obtain ⟨h0, h1, h2, h3, h4, h5, ⟨hL, hsl, -⟩, rs, hkL, hks, -, hkt⟩ := ht
    dsimp only at h0 h1 h2 h3 h4 h5 hL hsl hkL hks
    subst h0 h1 h2 h3 h4 h5 hL
    obtain rfl : rs = [] := by cases rs with
      | nil => rfl
      | cons a l => simp [TrL] at hkt
    subst hkL
    obtain ⟨x0, HX⟩ : ∃ x0, Hid (w.alloc (.cells #[.int .i8 3, .int .u64 0, .bool rneg, .slice rA mag.length rC, .int .u64 0, .int .i8 0, .string ⟨#[]⟩, .slice rkA 0 rkC] 39) = x0) := ⟨_, Lib.hid rfl⟩
    obtain ⟨b0, HB0⟩ : ∃ b0, Hid (w.heap.size = b0) := ⟨_, Lib.hid rfl⟩
    have HK0 : Hid (Keep nob w x0) := by unfold Hid; rw [← HX.out]; exact (Keep.refl _ _).alloc _
    have HC0 : Hid (x0.rangeAt b0 0 [.int .i8 3, .int .u64 0, .bool rneg, .slice rA mag.length rC, .int .u64 0, .int .i8 0, .string ⟨#[]⟩, .slice rkA 0 rkC]) := by unfold Hid; rw [← HX.out, ← HB0.out]; exact range_alloc_new w _ _ _ (fun j v hj => by simpa using hj)
    have HT0 : Hid (x0.there b0 0 8) := by unfold Hid; rw [← HX.out, ← HB0.out]; exact there_alloc_new w _ _ 8 (Nat.le_refl _)
    have HCE : Hid (∀ w', Kept x0 w' → ((w'.cell? ⟨b0, 0, none⟩ = some (.int .i8 3) ∧ w'.cell? ⟨b0, 1, none⟩ = some (.int .u64 0) ∧ w'.cell? ⟨b0, 2, none⟩ = some (.bool rneg) ∧ w'.cell? ⟨b0, 3, none⟩ = some (.slice rA mag.length rC) ∧ w'.cell? ⟨b0, 4, none⟩ = some (.int .u64 0) ∧ w'.cell? ⟨b0, 5, none⟩ = some (.int .i8 0) ∧ w'.cell? ⟨b0, 6, none⟩ = some (.string ⟨#[]⟩) ∧ w'.cell? ⟨b0, 7, none⟩ = some (.slice rkA 0 rkC)) ∧
        w'.frozen? ⟨b0, 0, none⟩ = false ∧ w'.frozen? ⟨b0, 1, none⟩ = false ∧ w'.frozen? ⟨b0, 2, none⟩ = false ∧ w'.frozen? ⟨b0, 3, none⟩ = false ∧ w'.frozen? ⟨b0, 4, none⟩ = false ∧ w'.frozen? ⟨b0, 5, none⟩ = false ∧ w'.frozen? ⟨b0, 6, none⟩ = false ∧ w'.frozen? ⟨b0, 7, none⟩ = false)) := Lib.hid (fun w' hk => by
      have h1 := range_keep hk HC0.out
      obtain ⟨_, _, _, _, _, _, _, _, _, f⟩ := eight (HT0.out.keep' hk)
      exact ⟨⟨h1 0 _ rfl, h1 1 _ rfl, h1 2 _ rfl, h1 3 _ rfl, h1 4 _ rfl, h1 5 _ rfl, h1 6 _ rfl, h1 7 _ rfl⟩, f⟩)
    have HCL := Lib.hid (fun (W : World) (hk : Kept x0 W) => normal_ok rneg rA rC mag.length mag W rfl (hsl.keep (HK0.out.then_ hk) (fun ⟨_, _, h⟩ => h)) h h1)
    obtain ⟨nm, HNM⟩ : ∃ nm, Hid (mag.length = nm) := ⟨_, Lib.hid rfl⟩
    rw [HNM.out] at HX HC0 HCE HCL
    simp only [HNM.out]
    simp only [ER]
    clear hsl hks hkt
    clear h h1
    go_enter Tryz.func28, Tryz.ntmps28
    go_upto_region 1 with (fail)
    rw [HX.out, HB0.out]
    obtain ⟨⟨a0, a1, a2, a3, a4, a5, a6, a7⟩, f0, f1, f2, f3, f4, f5, f6, f7⟩ := HCE.out x0 (Keep.refl _ _)
    go_upto_region 26 with (first | (go_at_call 61; go_must (refine (HCL.out x0 (Keep.refl _ _)).mono ?_); rintro e w1 ⟨rfl, hk1⟩; have HK1 : Hid (Keep nob w w1) := Lib.hid (HK0.out.then_ hk1); clear a0 a1 a2 a3 a4 a5 a6 a7 f0 f1 f2 f3 f4 f5 f6 f7; obtain ⟨⟨a0, a1, a2, a3, a4, a5, a6, a7⟩, f0, f1, f2, f3, f4, f5, f6, f7⟩ := HCE.out w1 hk1; clear hk1) | (with_reducible refine then_nl ?_) | (with_reducible refine in_nl ?_) | (with_reducible refine then_rt ?_) | (with_reducible refine in_rt ?_) | (with_reducible refine then_exit ?_) | (with_reducible refine in_eq ?_) | (with_reducible refine in_ne (by decide) ?_))
    go_wp2_with (fail)
    go_ret
    refine ⟨rfl, ?_⟩
    repeat (first | exact HK0.out | exact HK1.out | refine Keep.setCell ?_ (fun hlt => absurd (show b0 < w.heap.size from hlt) (by have := HB0.out; omega)) _)
  | flo b h h1 =>
    unfold V.flo at ht
    obtain ⟨rk, rn, rneg, rA, rL, rC, rbits, rext, rtext, rkA, rkL, rkC⟩ := r
    unfold Tr at ht
    obtain ⟨h0, h1, h2, h3, h4, h5, ⟨hL, hsl, -⟩, rs, hkL, hks, -, hkt⟩ := ht
    dsimp only at h0 h1 h2 h3 h4 h5 hL hsl hkL hks
    subst h0 h1 h2 h3 h4 h5 hL
    obtain rfl : rs = [] := by cases rs with
      | nil => rfl
      | cons a l => simp [TrL] at hkt
    subst hkL
    obtain ⟨x0, HX⟩ : ∃ x0, Hid (w.alloc (.cells #[.int .i8 4, .int .u64 0, .bool false, .slice rA 0 rC, .int .u64 (rbits : Int), .int .i8 0, .string ⟨#[]⟩, .slice rkA 0 rkC] 39) = x0) := ⟨_, Lib.hid rfl⟩
    obtain ⟨b0, HB0⟩ : ∃ b0, Hid (w.heap.size = b0) := ⟨_, Lib.hid rfl⟩
    have HK0 : Hid (Keep nob w x0) := by unfold Hid; rw [← HX.out]; exact (Keep.refl _ _).alloc _
    have HC0 : Hid (x0.rangeAt b0 0 [.int .i8 4, .int .u64 0, .bool false, .slice rA 0 rC, .int .u64 (rbits : Int), .int .i8 0, .string ⟨#[]⟩, .slice rkA 0 rkC]) := by unfold Hid; rw [← HX.out, ← HB0.out]; exact range_alloc_new w _ _ _ (fun j v hj => by simpa using hj)
    have HT0 : Hid (x0.there b0 0 8) := by unfold Hid; rw [← HX.out, ← HB0.out]; exact there_alloc_new w _ _ 8 (Nat.le_refl _)
    have HCE : Hid (∀ w', Kept x0 w' → ((w'.cell? ⟨b0, 0, none⟩ = some (.int .i8 4) ∧ w'.cell? ⟨b0, 1, none⟩ = some (.int .u64 0) ∧ w'.cell? ⟨b0, 2, none⟩ = some (.bool false) ∧ w'.cell? ⟨b0, 3, none⟩ = some (.slice rA 0 rC) ∧ w'.cell? ⟨b0, 4, none⟩ = some (.int .u64 (rbits : Int)) ∧ w'.cell? ⟨b0, 5, none⟩ = some (.int .i8 0) ∧ w'.cell? ⟨b0, 6, none⟩ = some (.string ⟨#[]⟩) ∧ w'.cell? ⟨b0, 7, none⟩ = some (.slice rkA 0 rkC)) ∧
        w'.frozen? ⟨b0, 0, none⟩ = false ∧ w'.frozen? ⟨b0, 1, none⟩ = false ∧ w'.frozen? ⟨b0, 2, none⟩ = false ∧ w'.frozen? ⟨b0, 3, none⟩ = false ∧ w'.frozen? ⟨b0, 4, none⟩ = false ∧ w'.frozen? ⟨b0, 5, none⟩ = false ∧ w'.frozen? ⟨b0, 6, none⟩ = false ∧ w'.frozen? ⟨b0, 7, none⟩ = false)) := Lib.hid (fun w' hk => by
      have h1 := range_keep hk HC0.out
      obtain ⟨_, _, _, _, _, _, _, _, _, f⟩ := eight (HT0.out.keep' hk)
      exact ⟨⟨h1 0 _ rfl, h1 1 _ rfl, h1 2 _ rfl, h1 3 _ rfl, h1 4 _ rfl, h1 5 _ rfl, h1 6 _ rfl, h1 7 _ rfl⟩, f⟩)
    have HCL := Lib.hid (fun (W : World) (hk : Kept x0 W) => float_ok rbits B h1 h sa W (g.keep (HK0.out.then_ hk) (fun _ h => h.elim)))
    simp only [ER]
    clear hsl hks hkt
    clear h h1
    go_enter Tryz.func28, Tryz.ntmps28
    go_upto_region 1 with (fail)
    rw [HX.out, HB0.out]
    obtain ⟨⟨a0, a1, a2, a3, a4, a5, a6, a7⟩, f0, f1, f2, f3, f4, f5, f6, f7⟩ := HCE.out x0 (Keep.refl _ _)
    go_upto_region 26 with (first | (go_at_call 62; go_must (refine (HCL.out x0 (Keep.refl _ _)).mono ?_); rintro e w1 ⟨rfl, hk1⟩; have HK1 : Hid (Keep nob w w1) := Lib.hid (HK0.out.then_ hk1); clear a0 a1 a2 a3 a4 a5 a6 a7 f0 f1 f2 f3 f4 f5 f6 f7; obtain ⟨⟨a0, a1, a2, a3, a4, a5, a6, a7⟩, f0, f1, f2, f3, f4, f5, f6, f7⟩ := HCE.out w1 hk1; clear hk1) | (with_reducible refine then_nl ?_) | (with_reducible refine in_nl ?_) | (with_reducible refine then_rt ?_) | (with_reducible refine in_rt ?_) | (with_reducible refine then_exit ?_) | (with_reducible refine in_eq ?_) | (with_reducible refine in_ne (by decide) ?_))
    go_wp2_with (fail)
    go_ret
    refine ⟨rfl, ?_⟩
    repeat (first | exact HK0.out | exact HK1.out | refine Keep.setCell ?_ (fun hlt => absurd (show b0 < w.heap.size from hlt) (by have := HB0.out; omega)) _)
  | tex t h =>
    unfold V.tex at ht
    obtain ⟨rk, rn, rneg, rA, rL, rC, rbits, rext, rtext, rkA, rkL, rkC⟩ := r
    unfold Tr at ht
    obtain ⟨h0, h1, h2, h3, h4, h5, ⟨hL, hsl, -⟩, rs, hkL, hks, -, hkt⟩ := ht
    dsimp only at h0 h1 h2 h3 h4 h5 hL hsl hkL hks
    subst h0 h1 h2 h3 h4 h5 hL
    obtain rfl : rs = [] := by cases rs with
      | nil => rfl
      | cons a l => simp [TrL] at hkt
    subst hkL
    obtain ⟨x0, HX⟩ : ∃ x0, Hid (w.alloc (.cells #[.int .i8 5, .int .u64 0, .bool false, .slice rA 0 rC, .int .u64 0, .int .i8 0, .string rtext, .slice rkA 0 rkC] 39) = x0) := ⟨_, Lib.hid rfl⟩
    obtain ⟨b0, HB0⟩ : ∃ b0, Hid (w.heap.size = b0) := ⟨_, Lib.hid rfl⟩
    have HK0 : Hid (Keep nob w x0) := by unfold Hid; rw [← HX.out]; exact (Keep.refl _ _).alloc _
    have HC0 : Hid (x0.rangeAt b0 0 [.int .i8 5, .int .u64 0, .bool false, .slice rA 0 rC, .int .u64 0, .int .i8 0, .string rtext, .slice rkA 0 rkC]) := by unfold Hid; rw [← HX.out, ← HB0.out]; exact range_alloc_new w _ _ _ (fun j v hj => by simpa using hj)
    have HT0 : Hid (x0.there b0 0 8) := by unfold Hid; rw [← HX.out, ← HB0.out]; exact there_alloc_new w _ _ 8 (Nat.le_refl _)
    have HCE : Hid (∀ w', Kept x0 w' → ((w'.cell? ⟨b0, 0, none⟩ = some (.int .i8 5) ∧ w'.cell? ⟨b0, 1, none⟩ = some (.int .u64 0) ∧ w'.cell? ⟨b0, 2, none⟩ = some (.bool false) ∧ w'.cell? ⟨b0, 3, none⟩ = some (.slice rA 0 rC) ∧ w'.cell? ⟨b0, 4, none⟩ = some (.int .u64 0) ∧ w'.cell? ⟨b0, 5, none⟩ = some (.int .i8 0) ∧ w'.cell? ⟨b0, 6, none⟩ = some (.string rtext) ∧ w'.cell? ⟨b0, 7, none⟩ = some (.slice rkA 0 rkC)) ∧
        w'.frozen? ⟨b0, 0, none⟩ = false ∧ w'.frozen? ⟨b0, 1, none⟩ = false ∧ w'.frozen? ⟨b0, 2, none⟩ = false ∧ w'.frozen? ⟨b0, 3, none⟩ = false ∧ w'.frozen? ⟨b0, 4, none⟩ = false ∧ w'.frozen? ⟨b0, 5, none⟩ = false ∧ w'.frozen? ⟨b0, 6, none⟩ = false ∧ w'.frozen? ⟨b0, 7, none⟩ = false)) := Lib.hid (fun w' hk => by
      have h1 := range_keep hk HC0.out
      obtain ⟨_, _, _, _, _, _, _, _, _, f⟩ := eight (HT0.out.keep' hk)
      exact ⟨⟨h1 0 _ rfl, h1 1 _ rfl, h1 2 _ rfl, h1 3 _ rfl, h1 4 _ rfl, h1 5 _ rfl, h1 6 _ rfl, h1 7 _ rfl⟩, f⟩)
    have hsz := hb _ _ _ _ _ _ _ _ rfl
    have HCL := Lib.hid (fun (W : World) => badutf_ok rtext hsz h W)
    simp only [ER]
    clear hsl hks hkt
    clear h
    go_enter Tryz.func28, Tryz.ntmps28
    go_upto_region 1 with (fail)
    rw [HX.out, HB0.out]
    obtain ⟨⟨a0, a1, a2, a3, a4, a5, a6, a7⟩, f0, f1, f2, f3, f4, f5, f6, f7⟩ := HCE.out x0 (Keep.refl _ _)
    go_upto_region 12 with (first | (with_reducible refine then_nl ?_) | (with_reducible refine in_nl ?_) | (with_reducible refine then_rt ?_) | (with_reducible refine in_rt ?_) | (with_reducible refine then_exit ?_) | (with_reducible refine in_eq ?_) | (with_reducible refine in_ne (by decide) ?_))
    refine wp_region_fx 7 [.p, .kv, .cv (.int .i64 (rtext.size : Int)), .p, .kv, .p, .p] [] nob (fun _ => True) (fun _ _ _ _ => trivial) trivial (by kernel_rfl) (by kernel_rfl) (fun h => absurd rfl h) ?_
    simp only [List.take_succ_cons, List.take_zero, List.drop_succ_cons, List.drop_zero]
    refine fx_p ?_ (by rfl) (fun w' => ?_) (fun K hK => ?_); rotate_left; (go_simp; first | done | exact rfl); go_simp; refine hK _ ?_; clear hK K
    refine fx_kv ?_ (by rfl) (fun w' hw' ha => ?_) (fun K hK => ?_); rotate_left; (obtain ⟨⟨a0, a1, a2, a3, a4, a5, a6, a7⟩, -⟩ := HCE.out w' hw'.keep; go_simp; first | done | exact rfl); go_simp; refine hK _ ?_; clear hK K
    refine fx_cv (f := ?_) (args := ?_) (by rfl) (fun w' => ?_) (fun w' hw' ha => ?_) (fun K hK => ?_); rotate_left 2; (go_simp; first | done | (refine And.intro ?_ ?_ <;> exact rfl) | exact rfl); (exact HCL.out _); go_simp; refine hK _ ?_; clear hK K
    refine fx_p ?_ (by rfl) (fun w' => ?_) (fun K hK => ?_); rotate_left; (go_simp; first | done | exact rfl); go_simp; refine hK _ ?_; clear hK K
    refine fx_kv ?_ (by rfl) (fun w' hw' ha => ?_) (fun K hK => ?_); rotate_left; (obtain ⟨⟨a0, a1, a2, a3, a4, a5, a6, a7⟩, -⟩ := HCE.out w' hw'.keep; go_simp; first | done | exact rfl); go_simp; refine hK _ ?_; clear hK K
    refine fx_p ?_ (by rfl) (fun w' => ?_) (fun K hK => ?_); rotate_left; (go_simp; first | done | exact rfl); go_simp; refine hK _ ?_; clear hK K
    refine fx_p ?_ (by rfl) (fun w' => ?_) (fun K hK => ?_); rotate_left; (go_simp; first | done | exact rfl); go_simp; refine hK _ ?_; clear hK K
    refine fx_nil ?_
    intro w9 hk9 hΓ
    have HK9 := Lib.hid hk9.keep
    clear hk9 hΓ
    clear a0 a1 a2 a3 a4 a5 a6 a7 f0 f1 f2 f3 f4 f5 f6 f7
    have HK1 : Hid (Keep nob w w9) := Lib.hid (HK0.out.then_ HK9.out)
    obtain ⟨⟨a0, a1, a2, a3, a4, a5, a6, a7⟩, f0, f1, f2, f3, f4, f5, f6, f7⟩ := HCE.out w9 HK9.out
    go_upto_region 26 with (first | (with_reducible refine then_nl ?_) | (with_reducible refine in_nl ?_) | (with_reducible refine then_rt ?_) | (with_reducible refine in_rt ?_) | (with_reducible refine then_exit ?_) | (with_reducible refine in_eq ?_) | (with_reducible refine in_ne (by decide) ?_))
    go_wp2_with (fail)
    go_ret
    refine ⟨rfl, ?_⟩
    repeat (first | exact HK0.out | exact HK1.out | refine Keep.setCell ?_ (fun hlt => absurd (show b0 < w.heap.size from hlt) (by have := HB0.out; omega)) _)
  | map l h =>
    unfold V.map at ht
    obtain ⟨rk, rn, rneg, rA, rL, rC, rbits, rext, rtext, rkA, rkL, rkC⟩ := r
    unfold Tr at ht
    obtain ⟨h0, h1, h2, h3, h4, h5, ⟨hL, hsl, -⟩, rs, hkL, hks, -, hkt⟩ := ht
    dsimp only at h0 h1 h2 h3 h4 h5 hL hsl hkL hks
    subst h0 h1 h2 h3 h4 h5 hL
    subst hkL
    obtain ⟨x0, HX⟩ : ∃ x0, Hid (w.alloc (.cells #[.int .i8 8, .int .u64 0, .bool false, .slice rA 0 rC, .int .u64 0, .int .i8 0, .string ⟨#[]⟩, .slice rkA rs.length rkC] 39) = x0) := ⟨_, Lib.hid rfl⟩
    obtain ⟨b0, HB0⟩ : ∃ b0, Hid (w.heap.size = b0) := ⟨_, Lib.hid rfl⟩
    have HK0 : Hid (Keep nob w x0) := by unfold Hid; rw [← HX.out]; exact (Keep.refl _ _).alloc _
    have HC0 : Hid (x0.rangeAt b0 0 [.int .i8 8, .int .u64 0, .bool false, .slice rA 0 rC, .int .u64 0, .int .i8 0, .string ⟨#[]⟩, .slice rkA rs.length rkC]) := by unfold Hid; rw [← HX.out, ← HB0.out]; exact range_alloc_new w _ _ _ (fun j v hj => by simpa using hj)
    have HT0 : Hid (x0.there b0 0 8) := by unfold Hid; rw [← HX.out, ← HB0.out]; exact there_alloc_new w _ _ 8 (Nat.le_refl _)
    have HCE : Hid (∀ w', Kept x0 w' → ((w'.cell? ⟨b0, 0, none⟩ = some (.int .i8 8) ∧ w'.cell? ⟨b0, 1, none⟩ = some (.int .u64 0) ∧ w'.cell? ⟨b0, 2, none⟩ = some (.bool false) ∧ w'.cell? ⟨b0, 3, none⟩ = some (.slice rA 0 rC) ∧ w'.cell? ⟨b0, 4, none⟩ = some (.int .u64 0) ∧ w'.cell? ⟨b0, 5, none⟩ = some (.int .i8 0) ∧ w'.cell? ⟨b0, 6, none⟩ = some (.string ⟨#[]⟩) ∧ w'.cell? ⟨b0, 7, none⟩ = some (.slice rkA rs.length rkC)) ∧
        w'.frozen? ⟨b0, 0, none⟩ = false ∧ w'.frozen? ⟨b0, 1, none⟩ = false ∧ w'.frozen? ⟨b0, 2, none⟩ = false ∧ w'.frozen? ⟨b0, 3, none⟩ = false ∧ w'.frozen? ⟨b0, 4, none⟩ = false ∧ w'.frozen? ⟨b0, 5, none⟩ = false ∧ w'.frozen? ⟨b0, 6, none⟩ = false ∧ w'.frozen? ⟨b0, 7, none⟩ = false)) := Lib.hid (fun w' hk => by
      have h1 := range_keep hk HC0.out
      obtain ⟨_, _, _, _, _, _, _, _, _, f⟩ := eight (HT0.out.keep' hk)
      exact ⟨⟨h1 0 _ rfl, h1 1 _ rfl, h1 2 _ rfl, h1 3 _ rfl, h1 4 _ rfl, h1 5 _ rfl, h1 6 _ rfl, h1 7 _ rfl⟩, f⟩)
    have HCL := Lib.hid (fun (W : World) (hk : Kept x0 W) => rising_ok l rs rkA rkC rs.length B sa D W (g.keep (HK0.out.then_ hk) (fun _ h => h.elim)) rfl (hks.keep (HK0.out.then_ hk) (fun ⟨_, _, h⟩ => h)) (TrL.keep (HK0.out.then_ hk) (nobD D) _ _ hkt) hs.2.2.2 h (by rw [hkt.len]; exact hs.2.1))
    obtain ⟨nm, HNM⟩ : ∃ nm, Hid (rs.length = nm) := ⟨_, Lib.hid rfl⟩
    rw [HNM.out] at HX HC0 HCE HCL
    simp only [HNM.out]
    simp only [ER]
    clear hsl hks hkt
    clear h
    go_enter Tryz.func28, Tryz.ntmps28
    go_upto_region 1 with (fail)
    rw [HX.out, HB0.out]
    obtain ⟨⟨a0, a1, a2, a3, a4, a5, a6, a7⟩, f0, f1, f2, f3, f4, f5, f6, f7⟩ := HCE.out x0 (Keep.refl _ _)
    go_upto_region 26 with (first | (go_at_call 64; go_must (refine (HCL.out x0 (Keep.refl _ _)).mono ?_); rintro e w1 ⟨rfl, hk1⟩; have HK1 : Hid (Keep nob w w1) := Lib.hid (HK0.out.then_ hk1); clear a0 a1 a2 a3 a4 a5 a6 a7 f0 f1 f2 f3 f4 f5 f6 f7; obtain ⟨⟨a0, a1, a2, a3, a4, a5, a6, a7⟩, f0, f1, f2, f3, f4, f5, f6, f7⟩ := HCE.out w1 hk1; clear hk1) | (with_reducible refine then_nl ?_) | (with_reducible refine in_nl ?_) | (with_reducible refine then_rt ?_) | (with_reducible refine in_rt ?_) | (with_reducible refine then_exit ?_) | (with_reducible refine in_eq ?_) | (with_reducible refine in_ne (by decide) ?_))
    go_wp2_with (fail)
    go_ret
    refine ⟨rfl, ?_⟩
    repeat (first | exact HK0.out | exact HK1.out | refine Keep.setCell ?_ (fun hlt => absurd (show b0 < w.heap.size from hlt) (by have := HB0.out; omega)) _)
  | sim n h =>
    obtain ⟨rk, rn, rneg, rA, rL, rC, rbits, rext, rtext, rkA, rkL, rkC⟩ := r
    unfold Tr at ht
    obtain ⟨h0, h1, h2, h3, h4, h5, ⟨hL, hsl, -⟩, rs, hkL, hks, -, hkt⟩ := ht
    dsimp only at h0 h1 h2 h3 h4 h5 hL hsl hkL hks
    subst h0 h1 h2 h3 h4 h5 hL
    obtain rfl : rs = [] := by cases rs with
      | nil => rfl
      | cons a l => simp [TrL] at hkt
    subst hkL
    obtain ⟨x0, HX⟩ : ∃ x0, Hid (w.alloc (.cells #[.int .i8 10, .int .u64 (rn : Int), .bool false, .slice rA 0 rC, .int .u64 0, .int .i8 0, .string ⟨#[]⟩, .slice rkA 0 rkC] 39) = x0) := ⟨_, Lib.hid rfl⟩
    obtain ⟨b0, HB0⟩ : ∃ b0, Hid (w.heap.size = b0) := ⟨_, Lib.hid rfl⟩
    have HK0 : Hid (Keep nob w x0) := by unfold Hid; rw [← HX.out]; exact (Keep.refl _ _).alloc _
    have HC0 : Hid (x0.rangeAt b0 0 [.int .i8 10, .int .u64 (rn : Int), .bool false, .slice rA 0 rC, .int .u64 0, .int .i8 0, .string ⟨#[]⟩, .slice rkA 0 rkC]) := by unfold Hid; rw [← HX.out, ← HB0.out]; exact range_alloc_new w _ _ _ (fun j v hj => by simpa using hj)
    have HT0 : Hid (x0.there b0 0 8) := by unfold Hid; rw [← HX.out, ← HB0.out]; exact there_alloc_new w _ _ 8 (Nat.le_refl _)
    have HCE : Hid (∀ w', Kept x0 w' → ((w'.cell? ⟨b0, 0, none⟩ = some (.int .i8 10) ∧ w'.cell? ⟨b0, 1, none⟩ = some (.int .u64 (rn : Int)) ∧ w'.cell? ⟨b0, 2, none⟩ = some (.bool false) ∧ w'.cell? ⟨b0, 3, none⟩ = some (.slice rA 0 rC) ∧ w'.cell? ⟨b0, 4, none⟩ = some (.int .u64 0) ∧ w'.cell? ⟨b0, 5, none⟩ = some (.int .i8 0) ∧ w'.cell? ⟨b0, 6, none⟩ = some (.string ⟨#[]⟩) ∧ w'.cell? ⟨b0, 7, none⟩ = some (.slice rkA 0 rkC)) ∧
        w'.frozen? ⟨b0, 0, none⟩ = false ∧ w'.frozen? ⟨b0, 1, none⟩ = false ∧ w'.frozen? ⟨b0, 2, none⟩ = false ∧ w'.frozen? ⟨b0, 3, none⟩ = false ∧ w'.frozen? ⟨b0, 4, none⟩ = false ∧ w'.frozen? ⟨b0, 5, none⟩ = false ∧ w'.frozen? ⟨b0, 6, none⟩ = false ∧ w'.frozen? ⟨b0, 7, none⟩ = false)) := Lib.hid (fun w' hk => by
      have h1 := range_keep hk HC0.out
      obtain ⟨_, _, _, _, _, _, _, _, _, f⟩ := eight (HT0.out.keep' hk)
      exact ⟨⟨h1 0 _ rfl, h1 1 _ rfl, h1 2 _ rfl, h1 3 _ rfl, h1 4 _ rfl, h1 5 _ rfl, h1 6 _ rfl, h1 7 _ rfl⟩, f⟩)
    have HCL := Lib.hid (fun (W : World) => simple_ok rn h W)
    simp only [ER]
    clear hsl hks hkt
    clear h
    go_enter Tryz.func28, Tryz.ntmps28
    go_upto_region 1 with (fail)
    rw [HX.out, HB0.out]
    obtain ⟨⟨a0, a1, a2, a3, a4, a5, a6, a7⟩, f0, f1, f2, f3, f4, f5, f6, f7⟩ := HCE.out x0 (Keep.refl _ _)
    go_upto_region 26 with (first | (go_at_call 65; go_must (refine (HCL.out x0).mono ?_); rintro e w1 ⟨rfl, hk1⟩; have HK1 : Hid (Keep nob w w1) := Lib.hid (HK0.out.then_ hk1); clear a0 a1 a2 a3 a4 a5 a6 a7 f0 f1 f2 f3 f4 f5 f6 f7; obtain ⟨⟨a0, a1, a2, a3, a4, a5, a6, a7⟩, f0, f1, f2, f3, f4, f5, f6, f7⟩ := HCE.out w1 hk1; clear hk1) | (with_reducible refine then_nl ?_) | (with_reducible refine in_nl ?_) | (with_reducible refine then_rt ?_) | (with_reducible refine in_rt ?_) | (with_reducible refine then_exit ?_) | (with_reducible refine in_eq ?_) | (with_reducible refine in_ne (by decide) ?_))
    go_wp2_with (fail)
    go_ret
    refine ⟨rfl, ?_⟩
    repeat (first | exact HK0.out | exact HK1.out | refine Keep.setCell ?_ (fun hlt => absurd (show b0 < w.heap.size from hlt) (by have := HB0.out; omega)) _)
  | tag n v h h1 =>
    obtain ⟨rk, rn, rneg, rA, rL, rC, rbits, rext, rtext, rkA, rkL, rkC⟩ := r
    unfold Tr at ht
    obtain ⟨h0, h1, h2, h3, h4, h5, ⟨hL, hsl, -⟩, rs, hkL, hks, -, hkt⟩ := ht
    dsimp only at h0 h1 h2 h3 h4 h5 hL hsl hkL hks
    subst h0 h1 h2 h3 h4 h5 hL
    obtain ⟨l1, hl1⟩ : ∃ l1, Hid (rs.length = l1) := ⟨_, Lib.hid rfl⟩
    have e1 : rs.length = 1 := hkt.len
    rw [e1] at hkL
    subst hkL
    obtain ⟨x0, HX⟩ : ∃ x0, Hid (w.alloc (.cells #[.int .i8 9, .int .u64 (rn : Int), .bool false, .slice rA 0 rC, .int .u64 0, .int .i8 0, .string ⟨#[]⟩, .slice rkA 1 rkC] 39) = x0) := ⟨_, Lib.hid rfl⟩
    obtain ⟨b0, HB0⟩ : ∃ b0, Hid (w.heap.size = b0) := ⟨_, Lib.hid rfl⟩
    have HK0 : Hid (Keep nob w x0) := by unfold Hid; rw [← HX.out]; exact (Keep.refl _ _).alloc _
    have HC0 : Hid (x0.rangeAt b0 0 [.int .i8 9, .int .u64 (rn : Int), .bool false, .slice rA 0 rC, .int .u64 0, .int .i8 0, .string ⟨#[]⟩, .slice rkA 1 rkC]) := by unfold Hid; rw [← HX.out, ← HB0.out]; exact range_alloc_new w _ _ _ (fun j v hj => by simpa using hj)
    have HT0 : Hid (x0.there b0 0 8) := by unfold Hid; rw [← HX.out, ← HB0.out]; exact there_alloc_new w _ _ 8 (Nat.le_refl _)
    have HCE : Hid (∀ w', Kept x0 w' → ((w'.cell? ⟨b0, 0, none⟩ = some (.int .i8 9) ∧ w'.cell? ⟨b0, 1, none⟩ = some (.int .u64 (rn : Int)) ∧ w'.cell? ⟨b0, 2, none⟩ = some (.bool false) ∧ w'.cell? ⟨b0, 3, none⟩ = some (.slice rA 0 rC) ∧ w'.cell? ⟨b0, 4, none⟩ = some (.int .u64 0) ∧ w'.cell? ⟨b0, 5, none⟩ = some (.int .i8 0) ∧ w'.cell? ⟨b0, 6, none⟩ = some (.string ⟨#[]⟩) ∧ w'.cell? ⟨b0, 7, none⟩ = some (.slice rkA 1 rkC)) ∧
        w'.frozen? ⟨b0, 0, none⟩ = false ∧ w'.frozen? ⟨b0, 1, none⟩ = false ∧ w'.frozen? ⟨b0, 2, none⟩ = false ∧ w'.frozen? ⟨b0, 3, none⟩ = false ∧ w'.frozen? ⟨b0, 4, none⟩ = false ∧ w'.frozen? ⟨b0, 5, none⟩ = false ∧ w'.frozen? ⟨b0, 6, none⟩ = false ∧ w'.frozen? ⟨b0, 7, none⟩ = false)) := Lib.hid (fun w' hk => by
      have h1 := range_keep hk HC0.out
      obtain ⟨_, _, _, _, _, _, _, _, _, f⟩ := eight (HT0.out.keep' hk)
      exact ⟨⟨h1 0 _ rfl, h1 1 _ rfl, h1 2 _ rfl, h1 3 _ rfl, h1 4 _ rfl, h1 5 _ rfl, h1 6 _ rfl, h1 7 _ rfl⟩, f⟩)
    simp only [ER]
    clear hsl hks hkt
    have d2 : ((rn : Int) == 2) = false := by rw [beq_eq_false_iff_ne]; omega
    have d3 : ((rn : Int) == 3) = false := by rw [beq_eq_false_iff_ne]; omega
    have d4 : ((rn : Int) != 2) = true := by rw [bne_iff_ne]; omega
    have d5 : ((rn : Int) != 3) = true := by rw [bne_iff_ne]; omega
    clear h h1
    go_enter Tryz.func28, Tryz.ntmps28
    go_upto_region 1 with (fail)
    rw [HX.out, HB0.out]
    obtain ⟨⟨a0, a1, a2, a3, a4, a5, a6, a7⟩, f0, f1, f2, f3, f4, f5, f6, f7⟩ := HCE.out x0 (Keep.refl _ _)
    go_upto_region 26 with (first | (with_reducible refine then_nl ?_) | (with_reducible refine in_nl ?_) | (with_reducible refine then_rt ?_) | (with_reducible refine in_rt ?_) | (with_reducible refine then_exit ?_) | (with_reducible refine in_eq ?_) | (with_reducible refine in_ne (by decide) ?_))
    go_wp2_with (fail)
    go_ret
    refine ⟨rfl, ?_⟩
    repeat (first | exact HK0.out | exact HK1.out | refine Keep.setCell ?_ (fun hlt => absurd (show b0 < w.heap.size from hlt) (by have := HB0.out; omega)) _)
end Go.Proofs.YticnefkdkkjgcaaGreatDoor

/- value.walk: a value of which no node is wrong. -/
namespace Go.Proofs.YticnefkdkkjgcaaGreatDoor
open Go.RowKit

mutual
/-- how high a value is -/
def hV : V → Nat
  | .mk _ _ _ _ _ _ _ kids => hL kids + 1
def hL : List V → Nat
  | [] => 0
  | v :: l => max (hV v) (hL l)
end
theorem hL_get {l : List V} {i : Nat} (h : i < l.length) : hV l[i] ≤ hL l := by
  induction l generalizing i with
  | nil => simp at h
  | cons a l ih =>
    unfold hL
    cases i with
    | zero => simp only [List.getElem_cons_zero]; omega
    | succ i =>
      have := ih (i := i) (by simpa using h)
      simp only [List.getElem_cons_succ]
      omega
def visitV (bw bs bv : Nat) : Value := .func (.func 57) #[] #[.pointer (some ⟨bw, 0, none⟩), .pointer (some ⟨bs, 0, none⟩), .pointer (some ⟨bv, 0, none⟩)]
/-- the steps -/
structure StepsAt (w : World) (bs : Nat) (A : Option Addr) (c n : Nat) : Prop where
  cell : w.cell? ⟨bs, 0, none⟩ = some (.slice A n c)
  frz : w.frozen? ⟨bs, 0, none⟩ = false
  ow : ∃ xs : List Int, xs.length = n ∧ Ow EZ w A c xs
  lt : ∀ a : Addr, A = some a → a.block < w.heap.size
theorem StepsAt.keep {w w' : World} {bs : Nat} {A : Option Addr} {c n : Nat} {S : Nat → Prop} (h : StepsAt w bs A c n) (k : Keep S w w') (h1 : ¬ S bs) (h2 : ¬ InB S A) : StepsAt w' bs A c n := by
  refine ⟨k.cell h.cell h1, ?_, let ⟨xs, e, o⟩ := h.ow; ⟨xs, e, o.keep k h2⟩, fun a ha => Nat.lt_of_lt_of_le (h.lt a ha) k.size⟩
  rw [← h.frz]
  exact World.frozen?_of_block (k.block bs (World.block_lt_of_cell? w _ h.cell) h1)
/-- what is written on the way -/
def stepS (bs : Nat) (A : Option Addr) : Nat → Prop := fun b => b = bs ∨ AtB A b
structure VAt (w : World) (Z bw bs bv k : Nat) (A : Option Addr) (c n : Nat) : Prop where
  zw : Z ≤ bw
  zs : Z ≤ bs
  zv : Z ≤ bv
  ws : bw ≠ bs
  vs : bv ≠ bs
  cw : w.cell? ⟨bw, 0, none⟩ = some (.func (.func k) #[] #[])
  cv : w.cell? ⟨bv, 0, none⟩ = some (visitV bw bs bv)
  st : StepsAt w bs A c n
  ab : ∀ a, A = some a → Z ≤ a.block ∧ a.block ≠ bw ∧ a.block ≠ bs ∧ a.block ≠ bv
theorem VAt.keep {w w' : World} {Z bw bs bv k : Nat} {A : Option Addr} {c n : Nat} (h : VAt w Z bw bs bv k A c n) (hk : Keep nob w w') : VAt w' Z bw bs bv k A c n :=
  ⟨h.zw, h.zs, h.zv, h.ws, h.vs, hk.cell h.cw (fun h => h), hk.cell h.cv (fun h => h), h.st.keep hk (fun h => h) (fun ⟨_, _, h⟩ => h), h.ab⟩
/-- what visit answers of a value in which nothing is wrong -/
def VisitC (k : Nat) (Wr : V → Nat → Prop) (B : Nat) (sa : Nat → Addr) (v : V) : Prop := ∀ (r : Raw) (D : Nat → Prop) (Z : Nat) (w : World) (around : Nat) (A : Option Addr) (c n bw bs bv : Nat), GL B sa w → Tr w D r v → (∀ b, D b → b < Z) → B ≤ Z →
  VAt w Z bw bs bv k A c n → Wr v around → n + hV v ≤ 1000000 → around + hV v ≤ 1000000 →
  Calls Tryz.prog 57 #[ER.val r, .int .i64 (around : Int), .pointer (some ⟨bw, 0, none⟩), .pointer (some ⟨bs, 0, none⟩), .pointer (some ⟨bv, 0, none⟩)] w fun e w' =>
    e = .returned (.bool false) ∧ Keep (stepS bs A) w w' ∧ ∃ A' c', StepsAt w' bs A' c' n ∧ (∀ a, A' = some a → AtB A a.block ∨ w.heap.size ≤ a.block)
theorem Ow.cut {α : Type} {E : El α} {w : World} {A : Option Addr} {c : Nat} {xs : List α} (h : Ow E w A c xs) (k : Nat) : Ow E w A c (xs.take k) := ⟨h.sl.take k, h.room⟩
theorem infoInt : (Tryz.prog.info? 3).map (fun i => (i.zero, i.size, i.bytes)) = some (some (.int .i64 0), EZ.sz, 8) := by kernel_rfl
set_option maxRecDepth 100000 in
set_option maxHeartbeats 1000000 in
theorem visit_step (k : Nat) (Wr : V → Nat → Prop) (B : Nat) (sa : Nat → Addr) (hk : ∀ args w, (callFunc k args).run Tryz.prog w = .ok (.enter k args) w)
    (hW : ∀ (v : V) (r : Raw) (D : Nat → Prop) (w : World) (around : Nat), Wr v around → around ≤ 1000000 → GL B sa w → Tr w D r v → Calls Tryz.prog k #[ER.val r, .int .i64 (around : Int)] w fun e w' => e = .returned (.bool false) ∧ Keep nob w w')
    (hdown : ∀ kk n neg mag bits ext text kids around, Wr (.mk kk n neg mag bits ext text kids) around → ∀ v ∈ kids, Wr v (around + if isC kk = true then 1 else 0))
    (kk n0 : Nat) (neg : Bool) (mag : List Nat) (bits : Nat) (ext : Int) (text : ByteArray) (kids : List V) (hall : ∀ v ∈ kids, VisitC k Wr B sa v) : VisitC k Wr B sa (.mk kk n0 neg mag bits ext text kids) := by
  intro r D Z w around A c n bw bs bv g ht hD hBZ hv hwr hn har
  have HE := Lib.hid hk
  have HE1 : Hid (∀ args w, (callFunc 57 args).run Tryz.prog w = .ok (.enter 57 args) w) := Lib.hid (fun args w => by go_simp)
  have he := HE.out
  have he1 := HE1.out
  have HW := Lib.hid (fun (W : World) (hk : Keep nob w W) => hW _ r D W around hwr (by omega) (g.keep hk (fun _ h => h.elim)) (Tr.keep hk (nobD D) _ _ ht))
  have HC := Lib.hid (fun W => container_ok r W)
  have HDN := Lib.hid (hdown _ _ _ _ _ _ _ _ _ hwr)
  have HALL := Lib.hid hall
  have HG := Lib.hid g
  have HV := Lib.hid hv
  have HDD := Lib.hid hD
  have HBZ := Lib.hid hBZ
  have HN := Lib.hid (And.intro hn har)
  have hT := ht
  obtain ⟨hk0, -, -, -, -, -, -, rs, hkL, hks, hkl, hkt⟩ := hT
  have HRN := Lib.hid (range_new w r 39)
  have HKA : Hid (Keep nob w (w.alloc (.cells (ER.cells r).toArray 39))) := Lib.hid ((Keep.refl _ _).alloc _)
  obtain ⟨x0, HX0⟩ : ∃ x0, Hid (w.alloc (.cells (ER.cells r).toArray 39) = x0) := ⟨_, Lib.hid rfl⟩
  obtain ⟨b0, HB0⟩ : ∃ b0, Hid (w.heap.size = b0) := ⟨_, Lib.hid rfl⟩
  rw [HX0.out, HB0.out] at HRN
  rw [HX0.out] at HKA
  obtain ⟨rk, rn, rneg, rA, rL, rC, rbits, rext, rtext, rkA, rkL, rkC⟩ := r
  dsimp only at hk0 hkL hks
  subst hk0
  have HH := Lib.hid (hks.keep HKA.out (fun ⟨_, _, h⟩ => h))
  have HLIE0 : Hid (Lies D rkA rs) := Lib.hid hkl
  have HT := Lib.hid (TrL.keep HKA.out (nobD D) _ _ hkt)
  have HLEN : Hid (rs.length = rkL) := Lib.hid hkL.symm
  have HLV : Hid (kids.length = rkL) := Lib.hid (by rw [← hkt.len, hkL])
  have hle := hks.le
  have hcap := hks.cap
  rw [← hkL] at hle
  have HHL : Hid (hV (.mk rk n0 neg mag bits ext text kids) = hL kids + 1) := Lib.hid (by rw [hV])
  have cw0 := hv.cw
  have cv0 := hv.cv
  simp only [ER] at HW HC ⊢
  have HX : Hid (w.alloc (.cells #[.int .i8 (rk : Int), .int .u64 (rn : Int), .bool rneg, .slice rA rL rC, .int .u64 (rbits : Int), .int .i8 rext, .string rtext, .slice rkA rkL rkC] 39) = x0) := HX0
  obtain ⟨a0, a1, a2, a3, a4, a5, a6, a7⟩ := cells_val HRN.out
  dsimp only at a0 a1 a2 a3 a4 a5 a6 a7
  have cw1 := HKA.out.cell cw0 (fun h => h)
  clear HX0 g ht hD hBZ hv hwr hn har hk hW hdown hall hks hkt hkL cw0 hkl
  go_enter Tryz.func57, Tryz.ntmps57
  go_upto_region 1 with (fail)
  rw [HX.out, HB0.out]
  have HLIE : Hid (Lies D rkA rs) := HLIE0
  have HAB : Hid (∀ a : Addr, (AtB A a.block ∨ x0.heap.size ≤ a.block) → Z ≤ a.block ∧ a.block ≠ bs ∧ a.block ≠ bw ∧ a.block ≠ bv) := by
    refine Lib.hid (fun a h => ?_)
    have z1 := World.block_lt_of_cell? x0 _ cw1
    have z2 := World.block_lt_of_cell? x0 _ (HKA.out.cell cv0 (fun h => h))
    have z3 := World.block_lt_of_cell? x0 _ (HKA.out.cell HV.out.st.cell (fun h => h))
    have z4 := HV.out.zw
    rcases h with ⟨a', ha, hb⟩ | h
    · obtain ⟨y1, y2, y3, y4⟩ := HV.out.ab a' ha
      rw [hb] at y1 y2 y3 y4
      exact ⟨y1, y3, y2, y4⟩
    · dsimp only at z1 z2 z3
      exact ⟨by omega, by omega, by omega, by omega⟩
  go_upto_region 3 with (first | (refine (HW.out _ HKA.out).mono ?_; rintro e w1 ⟨rfl, hk1⟩; have HK1 := Lib.hid hk1; have a7 := hk1.cell a7 (fun h => h); have a0 := hk1.cell a0 (fun h => h); have a1 := hk1.cell a1 (fun h => h); have a2 := hk1.cell a2 (fun h => h); have a3 := hk1.cell a3 (fun h => h); have a4 := hk1.cell a4 (fun h => h); have a5 := hk1.cell a5 (fun h => h); have a6 := hk1.cell a6 (fun h => h); clear hk1))
  by_cases hc : isC rk = true
  · rw [hc] at HC
    obtain ⟨ar, HAR0⟩ : ∃ ar, Hid (around + 1 = ar) := ⟨_, Lib.hid rfl⟩
    have i1 : IntKind.i64.wrap ((around : Int) + 1) = (ar : Int) := by have := HN.out.2; have := HAR0.out; rw [IntWalk.i64_left, IntWalk.wrap64_in _ ⟨by omega, by omega⟩]; omega
    have HAR : Hid (around + (if isC rk = true then 1 else 0) = ar) := Lib.hid (by rw [hc]; exact HAR0.out)
    have HAR1 : Hid (ar ≤ around + 1) := Lib.hid (by have := HAR0.out; omega)
    go_upto_region 5 with (first | (go_at_call 30; go_must (refine (HC.out _).mono ?_); rintro e w2 ⟨rfl, hk2⟩; have HK2 := Lib.hid (HK1.out.then_ hk2); have a7 := hk2.cell a7 (fun h => h); clear hk2))
    have HV2 := Lib.hid (HV.out.keep (HKA.out.then_ HK2.out))
    have HKw := Lib.hid (HKA.out.then_ HK2.out)
    go_wp2_with (fail)
    go_loopw [8, 9, 21] (fun u8 u9 u21 wr => ∃ (i : Nat) (A1 : Option Addr) (c1 : Nat), i ≤ rkL ∧ u21 = .int .i64 (i : Int) ∧ Hid (StepsAt wr bs A1 c1 n) ∧ Hid (∀ a : Addr, A1 = some a → AtB A a.block ∨ x0.heap.size ≤ a.block) ∧ Hid (Keep (stepS bs A) x0 wr)) (fun _ _ u21 _ => rkL - (intOf u21).toNat)
    case atStart => exact ⟨0, A, c, Nat.zero_le _, rfl, Lib.hid HV2.out.st, Lib.hid (fun a ha => .inl ⟨a, ha, rfl⟩), Lib.hid (HK2.out.mono (fun _ _ h => h.elim))⟩
    case round =>
      obtain ⟨i, A1, c1, hi, rfl, HST, HLI, HK⟩ := hrel
      rcases Nat.lt_or_ge i rkL with hlt | hge
      · have hd : decide ((i : Int) < (rkL : Int)) = true := by rw [decide_eq_true_iff]; omega
        have hi0 : (0 : Int) ≤ (i : Int) := by omega
        have hi1 : (i : Int) < (rkL : Int) := by omega
        have i5 : IntKind.i64.wrap ((i : Int) + 1) = (i : Int) + 1 := by rw [IntWalk.i64_left, IntWalk.wrap64_in _ ⟨by omega, by omega⟩]
        have hil : i < rs.length := by rw [HLEN.out]; exact hlt
        have hvl : i < kids.length := by rw [HLV.out]; exact hlt
        -- what the steps' blocks are not
        have HZ : Hid (∀ b, b < Z → ¬ stepS bs A b) := Lib.hid (fun b hb h => by
          rcases h with rfl | ⟨a, ha, rfl⟩
          · have := HV.out.zs; omega
          · have := (HV.out.ab a ha).1; omega)
        have hlies : ¬ InB (stepS bs A) rkA := fun ⟨a, ha, hb⟩ => HZ.out a.block (by
          have h1 := HLIE.out (fun e => by rw [e] at hil; simp at hil)
          obtain ⟨a', h2, h3⟩ := h1
          rw [ha] at h2
          cases h2
          exact HDD.out _ h3) hb
        obtain ⟨b, o, rfl, hx⟩ := (HH.out.keep HK.out hlies).elem (i := i) hil
        obtain ⟨rr, HR⟩ : ∃ rr, Hid (rs[i] = rr) := ⟨_, Lib.hid rfl⟩
        rw [HR.out] at hx
        obtain ⟨p, HP⟩ : ∃ p, Hid (o + i * 8 = p) := ⟨_, Lib.hid rfl⟩
        have hx2 : wr.rangeAt b p (ER.cells rr) := by rw [← HP.out]; exact hx
        obtain ⟨e0, e1, e2, e3, e4, e5, e6, e7⟩ := cells_val' hx2
        have hp := HP.out
        have HRN2 := Lib.hid (range_new wr rr 39)
        have HKA2 : Hid (Keep nob wr (wr.alloc (.cells (ER.cells rr).toArray 39))) := Lib.hid ((Keep.refl _ _).alloc _)
        clear hx hx2 hlies
        go_upto_region 8 with (fail)
        obtain ⟨w3, HW3⟩ : ∃ w3, Hid (wr.alloc (.cells (ER.cells rr).toArray 39) = w3) := ⟨_, Lib.hid rfl⟩
        obtain ⟨b8, HB8⟩ : ∃ b8, Hid (wr.heap.size = b8) := ⟨_, Lib.hid rfl⟩
        rw [HW3.out] at HRN2 HKA2
        rw [HB8.out] at HRN2 ⊢
        rw [show wr.alloc (.cells #[.int .i8 (rr.kind : Int), .int .u64 (rr.n : Int), .bool rr.neg, .slice rr.mA rr.mL rr.mC, .int .u64 (rr.bits : Int), .int .i8 rr.ext, .string rr.text, .slice rr.kA rr.kL rr.kC] 39) = w3 from HW3.out]
        clear e0 e1 e2 e3 e4 e5 e6 e7
        have HS3 := Lib.hid (HST.out.keep HKA2.out (fun h => h) (fun ⟨_, _, h⟩ => h))
        obtain ⟨xs, hxl, hxo⟩ := HS3.out.ow
        have HXL := Lib.hid hxl
        have HXO := Lib.hid hxo
        clear hxl hxo
        -- the step goes behind
        have HOw : Hid (Ow EZ (w3.alloc (.cells #[.int .i64 (i : Int)] 3)) A1 c1 xs) := Lib.hid (HXO.out.keep ((Keep.refl nob w3).alloc _) (fun ⟨_, _, h⟩ => h))
        have HSL : Hid (Sl EZ (w3.alloc (.cells #[.int .i64 (i : Int)] 3)) (some ⟨w3.heap.size, 0, none⟩) 1 [(i : Int)]) := Lib.hid (Ow.new_ EZ w3 _ _ 1 [(i : Int)] (Nat.le_refl _) (by decide) rfl (fun j v hj => by simpa [El.flat_cons, El.flat_nil, EZ] using hj)).sl
        have hnb : n + 1 ≤ 1000000 := by have h1 := HN.out.1; have h2 := HHL.out; omega
        have s0 := HS3.out.cell
        have s1 := HS3.out.frz
        go_upto_region 9 with (at_builtin; refine wpList_append_ow EZ rfl _ _ 112 rfl 3 _ 8 Tryz.underlying112 infoInt rfl A1 n c1 rfl xs HXL.out HOw.out (some ⟨w3.heap.size, 0, none⟩) 1 1 rfl [(i : Int)] rfl HSL.out (by omega) (by omega) ?_; intro A2 c2 w6 hap; have HAP := Lib.hid hap; clear hap; have hbsA : ¬ AtB A1 bs := (fun ⟨a, ha, hb⟩ => by have h1 := HAB.out a (HLI.out a ha); exact h1.2.1 hb); have s6 := HAP.out.keep.cell (((Keep.refl nob w3).alloc (.cells #[.int .i64 (i : Int)] 3)).cell s0 (fun h => h)) hbsA; have s7 : w6.frozen? ⟨bs, 0, none⟩ = false := (by rw [← s1]; exact World.frozen?_of_block ((HAP.out.keep.block bs (Nat.lt_of_lt_of_le (World.block_lt_of_cell? w3 _ s0) (by simp)) hbsA).trans (((Keep.refl nob w3).alloc (.cells #[.int .i64 (i : Int)] 3)).block bs (World.block_lt_of_cell? w3 _ s0) (fun h => h)))))
        obtain ⟨w5, HW5⟩ : ∃ w5, Hid (w3.alloc (.cells #[.int .i64 (i : Int)] 3) = w5) := ⟨_, Lib.hid rfl⟩
        rw [HW5.out] at HAP
        have HK5 : Hid (Keep nob w3 w5) := by unfold Hid; rw [← HW5.out]; exact (Keep.refl _ _).alloc _
        have HLT5 : Hid (w5.heap.size = w3.heap.size + 1) := by unfold Hid; rw [← HW5.out]; simp
        obtain ⟨w7, HW7⟩ : ∃ w7, Hid (w6.setCell ⟨bs, 0, none⟩ (.slice A2 (n + 1) c2) = w7) := ⟨_, Lib.hid rfl⟩
        have HK7 : Hid (Keep (fun b => b = bs) w6 w7) := by unfold Hid; rw [← HW7.out]; exact (Keep.refl (fun b => b = bs) w6).setCell (p := ⟨bs, 0, none⟩) (fun _ => rfl) _
        have s8 : w7.cell? ⟨bs, 0, none⟩ = some (.slice A2 (n + 1) c2) := by rw [← HW7.out]; exact World.cell?_setCell_same _ _ _ s6
        have s9 : w7.frozen? ⟨bs, 0, none⟩ = false := by rw [← HW7.out, World.frozen?_setCell]; exact s7
        rw [HW7.out]
        have HLI2 : Hid (∀ a : Addr, A2 = some a → AtB A a.block ∨ x0.heap.size ≤ a.block) := Lib.hid (fun a ha => by
          rcases HAP.out.lies a ha with ⟨a0, h1, h2⟩ | ⟨h1, _⟩
          · rw [← h2]; exact HLI.out a0 h1
          · right
            have h3 := HK.out.size
            have h4 := HKA2.out.size
            have h5 := HK5.out.size
            omega)
        have HSUB : Hid (∀ A' : Option Addr, (∀ a : Addr, A' = some a → AtB A a.block ∨ x0.heap.size ≤ a.block) → ∀ b, b < x0.heap.size → stepS bs A' b → stepS bs A b) := Lib.hid (fun A' hl b hb h => by
          rcases h with rfl | ⟨a, ha, rfl⟩
          · exact .inl rfl
          · rcases hl a ha with h | h
            · exact .inr h
            · omega)
        have HK37 : Hid (Keep (stepS bs A1) w3 w7) := Lib.hid (((HK5.out.mono (fun _ _ h => h.elim)).trans HAP.out.keep (fun _ _ h => .inr h)).trans HK7.out (fun _ _ h => .inl h))
        have HKX7 : Hid (Keep (stepS bs A) x0 w7) := Lib.hid ((HK.out.trans HKA2.out (fun _ _ h => h.elim)).trans HK37.out (fun b hb h => HSUB.out A1 HLI.out b hb h))
        have nbw : ¬ stepS bs A bw := fun h => by
          rcases h with h | ⟨a, ha, h⟩
          · exact HV.out.ws h
          · exact (HV.out.ab a ha).2.1 h
        have nbv : ¬ stepS bs A bv := fun h => by
          rcases h with h | ⟨a, ha, h⟩
          · exact HV.out.vs h
          · exact (HV.out.ab a ha).2.2.2 h
        have HOW7 : Hid (StepsAt w7 bs A2 c2 (n + 1)) := Lib.hid ⟨s8, s9, ⟨xs ++ [(i : Int)], by rw [List.length_append, HXL.out]; rfl, HAP.out.ow.keep HK7.out (fun ⟨a, ha, hb⟩ => by
          have h1 := HAB.out a (HLI2.out a ha); exact h1.2.1 hb)⟩, fun a ha => by
            have h7 := HK7.out.size
            rcases HAP.out.lies a ha with ⟨a0, h1, h2⟩ | ⟨h1, h2⟩
            · rw [← h2]
              have h3 := HS3.out.lt a0 h1
              have h4 := HK5.out.size
              have h5 := HAP.out.keep.size
              omega
            · omega⟩
        have HV7 : Hid (VAt w7 Z bw bs bv k A2 c2 (n + 1)) := Lib.hid ⟨HV.out.zw, HV.out.zs, HV.out.zv, HV.out.ws, HV.out.vs, HKX7.out.cell (HKA.out.cell HV.out.cw (fun h => h)) nbw, HKX7.out.cell (HKA.out.cell HV.out.cv (fun h => h)) nbv, HOW7.out, fun a ha => by
          obtain ⟨h1, h2, h3, h4⟩ := HAB.out a (HLI2.out a ha)
          exact ⟨h1, h3, h2, h4⟩⟩
        have HG7 : Hid (GL B sa w7) := Lib.hid ((HG.out.keep HKA.out (fun _ h => h.elim)).keep HKX7.out (fun b h => by
          rcases h with rfl | ⟨a, ha, rfl⟩
          · have := HV.out.zs; have := HBZ.out; omega
          · have := (HV.out.ab a ha).1; have := HBZ.out; omega))
        have hb8 : ¬ stepS bs A1 b8 := fun h => by
          rw [← HB8.out] at h
          rcases h with h | ⟨a, ha, h⟩
          · have := World.block_lt_of_cell? wr _ HST.out.cell; dsimp only at this; omega
          · have := HST.out.lt a ha; omega
        obtain ⟨e0, e1, e2, e3, e4, e5, e6, e7⟩ := cells_val (HK37.out.range HRN2.out hb8)
        have cv7 := HV7.out.cv
        have hCC := HALL.out kids[i] (List.getElem_mem hvl) rr D Z w7 (ar) A2 c2 (n + 1) bw bs bv HG7.out (by rw [← HR.out]; exact Tr.keep HKX7.out (fun b hb => HZ.out b (HDD.out b hb)) _ _ (HT.out.get i hil hvl)) HDD.out HBZ.out HV7.out (by rw [← HAR.out]; exact HDN.out _ (List.getElem_mem hvl)) (by have h1 := HN.out.1; have h2 := HHL.out; have h3 := hL_get hvl; omega) (by have h1 := HN.out.2; have h2 := HHL.out; have h3 := hL_get hvl; have h4 := HAR1.out; omega)
        simp only [ER] at hCC
        have HCC := Lib.hid hCC
        clear hCC nbw nbv hb8 s0 s1 s6 s7 s8 s9
        have hcv : visitV bw bs bv = .func (.func 57) #[] #[.pointer (some ⟨bw, 0, none⟩), .pointer (some ⟨bs, 0, none⟩), .pointer (some ⟨bv, 0, none⟩)] := rfl
        rw [hcv] at cv7
        go_upto_region 11 with ((with_reducible refine HCC.out.mono ?_); rintro e w8 ⟨rfl, hk8, A3, c3, hst8, hli8⟩; have HK8 := Lib.hid hk8; have HST8 := Lib.hid hst8; have HLI8 := Lib.hid hli8; clear hk8 hst8 hli8)
        obtain ⟨ys, hyl, hyo⟩ := HST8.out.ow
        have t0 := HST8.out.cell
        have t1 := HST8.out.frz
        have j1 : IntKind.i64.wrap ((n : Int) + 1 - 1) = (n : Int) := by rw [show (n : Int) + 1 - 1 = (n : Int) by omega, IntWalk.i64_left, IntWalk.wrap64_in _ ⟨by omega, by omega⟩]
        have j2 : (n : Int) + 1 - 1 = (n : Int) := by omega
        have j3 : IntKind.i64.wrap (n : Int) = (n : Int) := by rw [IntWalk.i64_left, IntWalk.wrap64_in _ ⟨by omega, by omega⟩]
        have hlec : n + 1 ≤ c3 := by have := hyo.sl.le; omega
        have hcc3 := hyo.sl.cap
        have q1 : (0 : Int) ≤ (n : Int) := by omega
        have q2 : (n : Int) ≤ (c3 : Int) := by omega
        have HYL := Lib.hid hyl
        have HYO := Lib.hid hyo
        clear hyl hyo e0 e1 e2 e3 e4 e5 e6 e7
        go_wp2_with (fail)
        have k9 : Keep (fun b => b = bs) w8 (w8.setCell ⟨bs, 0, none⟩ (.slice A3 n c3)) := (Keep.refl (fun b => b = bs) w8).setCell (p := ⟨bs, 0, none⟩) (fun _ => rfl) _
        have hl3 : ∀ a : Addr, A3 = some a → AtB A a.block ∨ x0.heap.size ≤ a.block := fun a ha => by
          rcases HLI8.out a ha with ⟨a2, h1, h2⟩ | h
          · have := HLI2.out a2 h1
            rwa [h2] at this
          · right; have := HKX7.out.size; omega
        refine ⟨⟨i + 1, A3, c3, hlt, rfl, Lib.hid ⟨World.cell?_setCell_same _ _ _ t0, by rw [World.frozen?_setCell]; exact t1, ⟨ys.take n, by rw [List.length_take, HYL.out]; omega, (HYO.out.cut n).keep k9 (fun ⟨a, ha, hb⟩ => (HAB.out a (hl3 a ha)).2.1 hb)⟩, fun a ha => Nat.lt_of_lt_of_le (HST8.out.lt a ha) k9.size⟩, Lib.hid hl3, Lib.hid ((HKX7.out.trans HK8.out (fun b hb h => HSUB.out A2 HLI2.out b hb h)).trans k9 (fun _ _ h => .inl h))⟩, by simp [intOf]; omega⟩
      · obtain rfl : i = rkL := by omega
        have hd : decide ((i : Int) < (i : Int)) = false := by rw [decide_eq_false_iff_not]; omega
        go_wp2
        go_ret
        refine ⟨rfl, (HKA.out.mono (fun _ _ h => h.elim)).trans HK.out (fun _ _ h => h), A1, c1, HST.out, fun a ha => ?_⟩
        rcases HLI.out a ha with h | h
        · exact .inl h
        · right; have := HKA.out.size; omega
  · have hc : isC rk = false := by simpa using hc
    rw [hc] at HC
    have HAR : Hid (around + (if isC rk = true then 1 else 0) = around) := Lib.hid (by rw [hc]; rfl)
    have HAR1 : Hid (around ≤ around + 1) := Lib.hid (by omega)
    go_upto_region 5 with (first | (go_at_call 30; go_must (refine (HC.out _).mono ?_); rintro e w2 ⟨rfl, hk2⟩; have HK2 := Lib.hid (HK1.out.then_ hk2); have a7 := hk2.cell a7 (fun h => h); clear hk2))
    have HV2 := Lib.hid (HV.out.keep (HKA.out.then_ HK2.out))
    have HKw := Lib.hid (HKA.out.then_ HK2.out)
    go_wp2_with (fail)
    go_loopw [8, 9, 21] (fun u8 u9 u21 wr => ∃ (i : Nat) (A1 : Option Addr) (c1 : Nat), i ≤ rkL ∧ u21 = .int .i64 (i : Int) ∧ Hid (StepsAt wr bs A1 c1 n) ∧ Hid (∀ a : Addr, A1 = some a → AtB A a.block ∨ x0.heap.size ≤ a.block) ∧ Hid (Keep (stepS bs A) x0 wr)) (fun _ _ u21 _ => rkL - (intOf u21).toNat)
    case atStart => exact ⟨0, A, c, Nat.zero_le _, rfl, Lib.hid HV2.out.st, Lib.hid (fun a ha => .inl ⟨a, ha, rfl⟩), Lib.hid (HK2.out.mono (fun _ _ h => h.elim))⟩
    case round =>
      obtain ⟨i, A1, c1, hi, rfl, HST, HLI, HK⟩ := hrel
      rcases Nat.lt_or_ge i rkL with hlt | hge
      · have hd : decide ((i : Int) < (rkL : Int)) = true := by rw [decide_eq_true_iff]; omega
        have hi0 : (0 : Int) ≤ (i : Int) := by omega
        have hi1 : (i : Int) < (rkL : Int) := by omega
        have i5 : IntKind.i64.wrap ((i : Int) + 1) = (i : Int) + 1 := by rw [IntWalk.i64_left, IntWalk.wrap64_in _ ⟨by omega, by omega⟩]
        have hil : i < rs.length := by rw [HLEN.out]; exact hlt
        have hvl : i < kids.length := by rw [HLV.out]; exact hlt
        -- what the steps' blocks are not
        have HZ : Hid (∀ b, b < Z → ¬ stepS bs A b) := Lib.hid (fun b hb h => by
          rcases h with rfl | ⟨a, ha, rfl⟩
          · have := HV.out.zs; omega
          · have := (HV.out.ab a ha).1; omega)
        have hlies : ¬ InB (stepS bs A) rkA := fun ⟨a, ha, hb⟩ => HZ.out a.block (by
          have h1 := HLIE.out (fun e => by rw [e] at hil; simp at hil)
          obtain ⟨a', h2, h3⟩ := h1
          rw [ha] at h2
          cases h2
          exact HDD.out _ h3) hb
        obtain ⟨b, o, rfl, hx⟩ := (HH.out.keep HK.out hlies).elem (i := i) hil
        obtain ⟨rr, HR⟩ : ∃ rr, Hid (rs[i] = rr) := ⟨_, Lib.hid rfl⟩
        rw [HR.out] at hx
        obtain ⟨p, HP⟩ : ∃ p, Hid (o + i * 8 = p) := ⟨_, Lib.hid rfl⟩
        have hx2 : wr.rangeAt b p (ER.cells rr) := by rw [← HP.out]; exact hx
        obtain ⟨e0, e1, e2, e3, e4, e5, e6, e7⟩ := cells_val' hx2
        have hp := HP.out
        have HRN2 := Lib.hid (range_new wr rr 39)
        have HKA2 : Hid (Keep nob wr (wr.alloc (.cells (ER.cells rr).toArray 39))) := Lib.hid ((Keep.refl _ _).alloc _)
        clear hx hx2 hlies
        go_upto_region 8 with (fail)
        obtain ⟨w3, HW3⟩ : ∃ w3, Hid (wr.alloc (.cells (ER.cells rr).toArray 39) = w3) := ⟨_, Lib.hid rfl⟩
        obtain ⟨b8, HB8⟩ : ∃ b8, Hid (wr.heap.size = b8) := ⟨_, Lib.hid rfl⟩
        rw [HW3.out] at HRN2 HKA2
        rw [HB8.out] at HRN2 ⊢
        rw [show wr.alloc (.cells #[.int .i8 (rr.kind : Int), .int .u64 (rr.n : Int), .bool rr.neg, .slice rr.mA rr.mL rr.mC, .int .u64 (rr.bits : Int), .int .i8 rr.ext, .string rr.text, .slice rr.kA rr.kL rr.kC] 39) = w3 from HW3.out]
        clear e0 e1 e2 e3 e4 e5 e6 e7
        have HS3 := Lib.hid (HST.out.keep HKA2.out (fun h => h) (fun ⟨_, _, h⟩ => h))
        obtain ⟨xs, hxl, hxo⟩ := HS3.out.ow
        have HXL := Lib.hid hxl
        have HXO := Lib.hid hxo
        clear hxl hxo
        -- the step goes behind
        have HOw : Hid (Ow EZ (w3.alloc (.cells #[.int .i64 (i : Int)] 3)) A1 c1 xs) := Lib.hid (HXO.out.keep ((Keep.refl nob w3).alloc _) (fun ⟨_, _, h⟩ => h))
        have HSL : Hid (Sl EZ (w3.alloc (.cells #[.int .i64 (i : Int)] 3)) (some ⟨w3.heap.size, 0, none⟩) 1 [(i : Int)]) := Lib.hid (Ow.new_ EZ w3 _ _ 1 [(i : Int)] (Nat.le_refl _) (by decide) rfl (fun j v hj => by simpa [El.flat_cons, El.flat_nil, EZ] using hj)).sl
        have hnb : n + 1 ≤ 1000000 := by have h1 := HN.out.1; have h2 := HHL.out; omega
        have s0 := HS3.out.cell
        have s1 := HS3.out.frz
        go_upto_region 9 with (at_builtin; refine wpList_append_ow EZ rfl _ _ 112 rfl 3 _ 8 Tryz.underlying112 infoInt rfl A1 n c1 rfl xs HXL.out HOw.out (some ⟨w3.heap.size, 0, none⟩) 1 1 rfl [(i : Int)] rfl HSL.out (by omega) (by omega) ?_; intro A2 c2 w6 hap; have HAP := Lib.hid hap; clear hap; have hbsA : ¬ AtB A1 bs := (fun ⟨a, ha, hb⟩ => by have h1 := HAB.out a (HLI.out a ha); exact h1.2.1 hb); have s6 := HAP.out.keep.cell (((Keep.refl nob w3).alloc (.cells #[.int .i64 (i : Int)] 3)).cell s0 (fun h => h)) hbsA; have s7 : w6.frozen? ⟨bs, 0, none⟩ = false := (by rw [← s1]; exact World.frozen?_of_block ((HAP.out.keep.block bs (Nat.lt_of_lt_of_le (World.block_lt_of_cell? w3 _ s0) (by simp)) hbsA).trans (((Keep.refl nob w3).alloc (.cells #[.int .i64 (i : Int)] 3)).block bs (World.block_lt_of_cell? w3 _ s0) (fun h => h)))))
        obtain ⟨w5, HW5⟩ : ∃ w5, Hid (w3.alloc (.cells #[.int .i64 (i : Int)] 3) = w5) := ⟨_, Lib.hid rfl⟩
        rw [HW5.out] at HAP
        have HK5 : Hid (Keep nob w3 w5) := by unfold Hid; rw [← HW5.out]; exact (Keep.refl _ _).alloc _
        have HLT5 : Hid (w5.heap.size = w3.heap.size + 1) := by unfold Hid; rw [← HW5.out]; simp
        obtain ⟨w7, HW7⟩ : ∃ w7, Hid (w6.setCell ⟨bs, 0, none⟩ (.slice A2 (n + 1) c2) = w7) := ⟨_, Lib.hid rfl⟩
        have HK7 : Hid (Keep (fun b => b = bs) w6 w7) := by unfold Hid; rw [← HW7.out]; exact (Keep.refl (fun b => b = bs) w6).setCell (p := ⟨bs, 0, none⟩) (fun _ => rfl) _
        have s8 : w7.cell? ⟨bs, 0, none⟩ = some (.slice A2 (n + 1) c2) := by rw [← HW7.out]; exact World.cell?_setCell_same _ _ _ s6
        have s9 : w7.frozen? ⟨bs, 0, none⟩ = false := by rw [← HW7.out, World.frozen?_setCell]; exact s7
        rw [HW7.out]
        have HLI2 : Hid (∀ a : Addr, A2 = some a → AtB A a.block ∨ x0.heap.size ≤ a.block) := Lib.hid (fun a ha => by
          rcases HAP.out.lies a ha with ⟨a0, h1, h2⟩ | ⟨h1, _⟩
          · rw [← h2]; exact HLI.out a0 h1
          · right
            have h3 := HK.out.size
            have h4 := HKA2.out.size
            have h5 := HK5.out.size
            omega)
        have HSUB : Hid (∀ A' : Option Addr, (∀ a : Addr, A' = some a → AtB A a.block ∨ x0.heap.size ≤ a.block) → ∀ b, b < x0.heap.size → stepS bs A' b → stepS bs A b) := Lib.hid (fun A' hl b hb h => by
          rcases h with rfl | ⟨a, ha, rfl⟩
          · exact .inl rfl
          · rcases hl a ha with h | h
            · exact .inr h
            · omega)
        have HK37 : Hid (Keep (stepS bs A1) w3 w7) := Lib.hid (((HK5.out.mono (fun _ _ h => h.elim)).trans HAP.out.keep (fun _ _ h => .inr h)).trans HK7.out (fun _ _ h => .inl h))
        have HKX7 : Hid (Keep (stepS bs A) x0 w7) := Lib.hid ((HK.out.trans HKA2.out (fun _ _ h => h.elim)).trans HK37.out (fun b hb h => HSUB.out A1 HLI.out b hb h))
        have nbw : ¬ stepS bs A bw := fun h => by
          rcases h with h | ⟨a, ha, h⟩
          · exact HV.out.ws h
          · exact (HV.out.ab a ha).2.1 h
        have nbv : ¬ stepS bs A bv := fun h => by
          rcases h with h | ⟨a, ha, h⟩
          · exact HV.out.vs h
          · exact (HV.out.ab a ha).2.2.2 h
        have HOW7 : Hid (StepsAt w7 bs A2 c2 (n + 1)) := Lib.hid ⟨s8, s9, ⟨xs ++ [(i : Int)], by rw [List.length_append, HXL.out]; rfl, HAP.out.ow.keep HK7.out (fun ⟨a, ha, hb⟩ => by
          have h1 := HAB.out a (HLI2.out a ha); exact h1.2.1 hb)⟩, fun a ha => by
            have h7 := HK7.out.size
            rcases HAP.out.lies a ha with ⟨a0, h1, h2⟩ | ⟨h1, h2⟩
            · rw [← h2]
              have h3 := HS3.out.lt a0 h1
              have h4 := HK5.out.size
              have h5 := HAP.out.keep.size
              omega
            · omega⟩
        have HV7 : Hid (VAt w7 Z bw bs bv k A2 c2 (n + 1)) := Lib.hid ⟨HV.out.zw, HV.out.zs, HV.out.zv, HV.out.ws, HV.out.vs, HKX7.out.cell (HKA.out.cell HV.out.cw (fun h => h)) nbw, HKX7.out.cell (HKA.out.cell HV.out.cv (fun h => h)) nbv, HOW7.out, fun a ha => by
          obtain ⟨h1, h2, h3, h4⟩ := HAB.out a (HLI2.out a ha)
          exact ⟨h1, h3, h2, h4⟩⟩
        have HG7 : Hid (GL B sa w7) := Lib.hid ((HG.out.keep HKA.out (fun _ h => h.elim)).keep HKX7.out (fun b h => by
          rcases h with rfl | ⟨a, ha, rfl⟩
          · have := HV.out.zs; have := HBZ.out; omega
          · have := (HV.out.ab a ha).1; have := HBZ.out; omega))
        have hb8 : ¬ stepS bs A1 b8 := fun h => by
          rw [← HB8.out] at h
          rcases h with h | ⟨a, ha, h⟩
          · have := World.block_lt_of_cell? wr _ HST.out.cell; dsimp only at this; omega
          · have := HST.out.lt a ha; omega
        obtain ⟨e0, e1, e2, e3, e4, e5, e6, e7⟩ := cells_val (HK37.out.range HRN2.out hb8)
        have cv7 := HV7.out.cv
        have hCC := HALL.out kids[i] (List.getElem_mem hvl) rr D Z w7 (around) A2 c2 (n + 1) bw bs bv HG7.out (by rw [← HR.out]; exact Tr.keep HKX7.out (fun b hb => HZ.out b (HDD.out b hb)) _ _ (HT.out.get i hil hvl)) HDD.out HBZ.out HV7.out (by rw [← HAR.out]; exact HDN.out _ (List.getElem_mem hvl)) (by have h1 := HN.out.1; have h2 := HHL.out; have h3 := hL_get hvl; omega) (by have h1 := HN.out.2; have h2 := HHL.out; have h3 := hL_get hvl; have h4 := HAR1.out; omega)
        simp only [ER] at hCC
        have HCC := Lib.hid hCC
        clear hCC nbw nbv hb8 s0 s1 s6 s7 s8 s9
        have hcv : visitV bw bs bv = .func (.func 57) #[] #[.pointer (some ⟨bw, 0, none⟩), .pointer (some ⟨bs, 0, none⟩), .pointer (some ⟨bv, 0, none⟩)] := rfl
        rw [hcv] at cv7
        go_upto_region 11 with ((with_reducible refine HCC.out.mono ?_); rintro e w8 ⟨rfl, hk8, A3, c3, hst8, hli8⟩; have HK8 := Lib.hid hk8; have HST8 := Lib.hid hst8; have HLI8 := Lib.hid hli8; clear hk8 hst8 hli8)
        obtain ⟨ys, hyl, hyo⟩ := HST8.out.ow
        have t0 := HST8.out.cell
        have t1 := HST8.out.frz
        have j1 : IntKind.i64.wrap ((n : Int) + 1 - 1) = (n : Int) := by rw [show (n : Int) + 1 - 1 = (n : Int) by omega, IntWalk.i64_left, IntWalk.wrap64_in _ ⟨by omega, by omega⟩]
        have j2 : (n : Int) + 1 - 1 = (n : Int) := by omega
        have j3 : IntKind.i64.wrap (n : Int) = (n : Int) := by rw [IntWalk.i64_left, IntWalk.wrap64_in _ ⟨by omega, by omega⟩]
        have hlec : n + 1 ≤ c3 := by have := hyo.sl.le; omega
        have hcc3 := hyo.sl.cap
        have q1 : (0 : Int) ≤ (n : Int) := by omega
        have q2 : (n : Int) ≤ (c3 : Int) := by omega
        have HYL := Lib.hid hyl
        have HYO := Lib.hid hyo
        clear hyl hyo e0 e1 e2 e3 e4 e5 e6 e7
        go_wp2_with (fail)
        have k9 : Keep (fun b => b = bs) w8 (w8.setCell ⟨bs, 0, none⟩ (.slice A3 n c3)) := (Keep.refl (fun b => b = bs) w8).setCell (p := ⟨bs, 0, none⟩) (fun _ => rfl) _
        have hl3 : ∀ a : Addr, A3 = some a → AtB A a.block ∨ x0.heap.size ≤ a.block := fun a ha => by
          rcases HLI8.out a ha with ⟨a2, h1, h2⟩ | h
          · have := HLI2.out a2 h1
            rwa [h2] at this
          · right; have := HKX7.out.size; omega
        refine ⟨⟨i + 1, A3, c3, hlt, rfl, Lib.hid ⟨World.cell?_setCell_same _ _ _ t0, by rw [World.frozen?_setCell]; exact t1, ⟨ys.take n, by rw [List.length_take, HYL.out]; omega, (HYO.out.cut n).keep k9 (fun ⟨a, ha, hb⟩ => (HAB.out a (hl3 a ha)).2.1 hb)⟩, fun a ha => Nat.lt_of_lt_of_le (HST8.out.lt a ha) k9.size⟩, Lib.hid hl3, Lib.hid ((HKX7.out.trans HK8.out (fun b hb h => HSUB.out A2 HLI2.out b hb h)).trans k9 (fun _ _ h => .inl h))⟩, by simp [intOf]; omega⟩
      · obtain rfl : i = rkL := by omega
        have hd : decide ((i : Int) < (i : Int)) = false := by rw [decide_eq_false_iff_not]; omega
        go_wp2
        go_ret
        refine ⟨rfl, (HKA.out.mono (fun _ _ h => h.elim)).trans HK.out (fun _ _ h => h), A1, c1, HST.out, fun a ha => ?_⟩
        rcases HLI.out a ha with h | h
        · exact .inl h
        · right; have := HKA.out.size; omega
theorem visit_ok (k : Nat) (Wr : V → Nat → Prop) (B : Nat) (sa : Nat → Addr) (hk : ∀ args w, (callFunc k args).run Tryz.prog w = .ok (.enter k args) w)
    (hW : ∀ (v : V) (r : Raw) (D : Nat → Prop) (w : World) (around : Nat), Wr v around → around ≤ 1000000 → GL B sa w → Tr w D r v → Calls Tryz.prog k #[ER.val r, .int .i64 (around : Int)] w fun e w' => e = .returned (.bool false) ∧ Keep nob w w')
    (hdown : ∀ kk n neg mag bits ext text kids around, Wr (.mk kk n neg mag bits ext text kids) around → ∀ v ∈ kids, Wr v (around + if isC kk = true then 1 else 0)) : ∀ v, VisitC k Wr B sa v
  | .mk kk n neg mag bits ext text kids => visit_step k Wr B sa hk hW hdown kk n neg mag bits ext text kids (fun v _hv => visit_ok k Wr B sa hk hW hdown v)
termination_by v => SizeOf.sizeOf v
decreasing_by
  have := List.sizeOf_lt_of_mem _hv
  simp
  omega
end Go.Proofs.YticnefkdkkjgcaaGreatDoor

/- value.walk, value.Check: a value of which no node is wrong. -/
namespace Go.Proofs.YticnefkdkkjgcaaGreatDoor
open Go.RowKit

theorem alloc1 (w : World) (v : Value) (t : Nat) : (w.alloc (.cells #[v] t)).cell? ⟨w.heap.size, 0, none⟩ = some v ∧ (w.alloc (.cells #[v] t)).frozen? ⟨w.heap.size, 0, none⟩ = false ∧ Keep nob w (w.alloc (.cells #[v] t)) ∧ (w.alloc (.cells #[v] t)).heap.size = w.heap.size + 1 :=
  ⟨range_alloc_new w #[v] t [v] (fun j u h => by simpa using h) 0 v rfl, World.frozen?_alloc_new w _ _ _, (Keep.refl _ _).alloc _, by simp⟩
theorem Keep.frz {S : Nat → Prop} {w w' : World} (k : Keep S w w') {b : Nat} {v : Value} (h : w.cell? ⟨b, 0, none⟩ = some v) (hs : ¬ S b) (hf : w.frozen? ⟨b, 0, none⟩ = false) : w'.frozen? ⟨b, 0, none⟩ = false := by
  rw [← hf]
  exact World.frozen?_of_block (k.block b (World.block_lt_of_cell? w _ h) hs)
set_option maxRecDepth 100000 in
set_option maxHeartbeats 1000000 in
theorem walk_ok (k : Nat) (Wr : V → Nat → Prop) (B : Nat) (sa : Nat → Addr) (hk : ∀ args w, (callFunc k args).run Tryz.prog w = .ok (.enter k args) w)
    (hW : ∀ (v : V) (r : Raw) (D : Nat → Prop) (w : World) (around : Nat), Wr v around → around ≤ 1000000 → GL B sa w → Tr w D r v → Calls Tryz.prog k #[ER.val r, .int .i64 (around : Int)] w fun e w' => e = .returned (.bool false) ∧ Keep nob w w')
    (hdown : ∀ kk n neg mag bits ext text kids around, Wr (.mk kk n neg mag bits ext text kids) around → ∀ v ∈ kids, Wr v (around + if isC kk = true then 1 else 0))
    (v : V) (r : Raw) (D : Nat → Prop) (w : World) (g : GL B sa w) (ht : Tr w D r v) (hD : ∀ b, D b → b < w.heap.size) (hB : B ≤ w.heap.size) (hv : hV v ≤ 1000) (hwr : Wr v 0) :
    Calls Tryz.prog 26 #[ER.val r, .func (.func k) #[] #[]] w fun e w' => e = .returned (.tuple #[.string ⟨#[]⟩, .bool false]) ∧ Keep nob w w' := by
  have HVC := Lib.hid (visit_ok k Wr B sa hk hW hdown v)
  have HG := Lib.hid g
  have HT := Lib.hid ht
  have HD := Lib.hid hD
  have HB := Lib.hid hB
  have HHV := Lib.hid hv
  have HWR := Lib.hid hwr
  have HE1 : Hid (∀ args w, (callFunc 57 args).run Tryz.prog w = .ok (.enter 57 args) w) := Lib.hid (fun args w => by go_simp)
  clear g ht hD hB hv hwr hk hW hdown
  have HRN := Lib.hid (range_new w r 39)
  have HKA : Hid (Keep nob w (w.alloc (.cells (ER.cells r).toArray 39))) := Lib.hid ((Keep.refl _ _).alloc _)
  obtain ⟨x0, HX0⟩ : ∃ x0, Hid (w.alloc (.cells (ER.cells r).toArray 39) = x0) := ⟨_, Lib.hid rfl⟩
  obtain ⟨b0, HB0⟩ : ∃ b0, Hid (w.heap.size = b0) := ⟨_, Lib.hid rfl⟩
  have HZ0 : Hid (x0.heap.size = b0 + 1) := by unfold Hid; rw [← HX0.out, ← HB0.out]; simp
  rw [HX0.out, HB0.out] at HRN
  rw [HX0.out] at HKA
  obtain ⟨rk, rn, rneg, rA, rL, rC, rbits, rext, rtext, rkA, rkL, rkC⟩ := r
  simp only [ER]
  have HX : Hid (w.alloc (.cells #[.int .i8 (rk : Int), .int .u64 (rn : Int), .bool rneg, .slice rA rL rC, .int .u64 (rbits : Int), .int .i8 rext, .string rtext, .slice rkA rkL rkC] 39) = x0) := HX0
  obtain ⟨a0, a1, a2, a3, a4, a5, a6, a7⟩ := cells_val HRN.out
  dsimp only at a0 a1 a2 a3 a4 a5 a6 a7
  clear HX0
  have hmf : ∀ (fn : Fn) (first cap : Array Value) (w : World), (Instr.makeFunc fn first cap).run Tryz.prog w = .ok (.func fn first cap) w := fun _ _ _ _ => rfl
  go_enter Tryz.func26, Tryz.ntmps26
  go_upto_region 1 with (fail)
  rw [HX.out, HB0.out]
  go_upto_region 3 with (fail)
  rw [HZ0.out]
  have A1 := alloc1 x0 (.func (.func k) #[] #[]) 72
  obtain ⟨x1, HX1⟩ : ∃ x1, Hid (x0.alloc (.cells #[.func (.func k) #[] #[]] 72) = x1) := ⟨_, Lib.hid rfl⟩
  rw [HX1.out, HZ0.out] at A1
  rw [HX1.out]
  obtain ⟨c1, f1, k1, z1⟩ := A1
  have A2 := alloc1 x1 (.slice none 0 0) 112
  obtain ⟨x2, HX2⟩ : ∃ x2, Hid (x1.alloc (.cells #[.slice none 0 0] 112) = x2) := ⟨_, Lib.hid rfl⟩
  rw [HX2.out, z1] at A2
  rw [HX2.out]
  obtain ⟨c2, f2, k2, z2⟩ := A2
  have A3 := alloc1 x2 .nilFunc 72
  obtain ⟨x3, HX3⟩ : ∃ x3, Hid (x2.alloc (.cells #[.nilFunc] 72) = x3) := ⟨_, Lib.hid rfl⟩
  rw [HX3.out, z2] at A3
  rw [HX3.out]
  obtain ⟨c3, f3, k3, z3⟩ := A3
  have HK3 := Lib.hid (k1.then_ (k2.then_ k3))
  have d1 := (k2.then_ k3).cell c1 (fun h => h)
  have d2 := k3.cell c2 (fun h => h)
  have e2 := k3.frz c2 (fun h => h) f2
  clear c1 c2 f1 f2 k1 k2 k3
  have HZ3 := Lib.hid z3
  clear z1 z2 z3
  go_upto_region 4 with (fail)
  have hcv : visitV (b0 + 1) (b0 + 1 + 1) (b0 + 1 + 1 + 1) = .func (.func 57) #[] #[.pointer (some ⟨b0 + 1, 0, none⟩), .pointer (some ⟨b0 + 1 + 1, 0, none⟩), .pointer (some ⟨b0 + 1 + 1 + 1, 0, none⟩)] := rfl
  rw [← hcv]
  obtain ⟨x4, HX4⟩ : ∃ x4, Hid (x3.setCell ⟨b0 + 1 + 1 + 1, 0, none⟩ (visitV (b0 + 1) (b0 + 1 + 1) (b0 + 1 + 1 + 1)) = x4) := ⟨_, Lib.hid rfl⟩
  rw [HX4.out, hcv]
  have HK4 : Hid (Keep (fun b => b = b0 + 1 + 1 + 1) x3 x4) := by unfold Hid; rw [← HX4.out]; exact (Keep.refl (fun b => b = b0 + 1 + 1 + 1) x3).setCell (p := ⟨b0 + 1 + 1 + 1, 0, none⟩) (fun _ => rfl) _
  have g3 : x4.cell? ⟨b0 + 1 + 1 + 1, 0, none⟩ = some (visitV (b0 + 1) (b0 + 1 + 1) (b0 + 1 + 1 + 1)) := by rw [← HX4.out]; exact World.cell?_setCell_same _ _ _ c3
  have g1 := HK4.out.cell d1 (fun h => absurd (show b0 + 1 = b0 + 1 + 1 + 1 from h) (by omega))
  have g2 := HK4.out.cell d2 (fun h => absurd (show b0 + 1 + 1 = b0 + 1 + 1 + 1 from h) (by omega))
  have h2 := HK4.out.frz d2 (fun h => absurd (show b0 + 1 + 1 = b0 + 1 + 1 + 1 from h) (by omega)) e2
  have HK34 : Hid (Keep (fun b => b = b0 + 1 + 1 + 1) x0 x4) := Lib.hid ((HK3.out.mono (fun _ _ h => h.elim)).trans HK4.out (fun _ _ h => h))
  have HKW : Hid (Keep nob w x4) := Lib.hid ((HKA.out.mono (fun _ _ h => h.elim)).trans HK34.out (fun b hb h => by have := HB0.out; omega))
  obtain ⟨i0, i1, i2, i3, i4, i5, i6, i7⟩ := cells_val (HK34.out.range HRN.out (by omega))
  dsimp only at i0 i1 i2 i3 i4 i5 i6 i7
  have hb0 := HB0.out
  have hst : StepsAt x4 (b0 + 1 + 1) none 0 0 := ⟨g2, h2, ⟨[], rfl, ⟨⟨Nat.le_refl _, by decide, fun h => absurd rfl h⟩, fun h => absurd h (by decide)⟩⟩, fun a ha => by cases ha⟩
  have hCC := HVC.out _ D b0 x4 0 none 0 0 (b0 + 1) (b0 + 1 + 1) (b0 + 1 + 1 + 1) (HG.out.keep HKW.out (fun _ h => h.elim)) (Tr.keep HKW.out (nobD D) _ _ HT.out) (fun b hb => by have := HD.out b hb; omega) (by have := HB.out; omega) ⟨by omega, by omega, by omega, by omega, by omega, g1, g3, hst, fun a ha => by cases ha⟩ HWR.out (by have := HHV.out; omega) (by have := HHV.out; omega)
  simp only [ER] at hCC
  rw [show ((0 : Nat) : Int) = 0 from rfl] at hCC
  have HCC := Lib.hid hCC
  have he1 := HE1.out
  have j3 := g3
  rw [hcv] at j3
  clear hCC hst g1 g2 g3 h2 c3 f3 d1 d2 e2 a0 a1 a2 a3 a4 a5 a6 a7 hb0
  go_wp2_with ((with_reducible refine HCC.out.mono ?_); rintro e w8 ⟨rfl, hk8, A3, c3, hst8, hli8⟩; have HK8 := Lib.hid hk8; clear hk8 hst8 hli8)
  go_ret2
  refine ⟨rfl, (HKW.out.mono (fun _ _ h => h.elim)).trans HK8.out (fun b hb h => ?_)⟩
  have := HB0.out
  rcases h with h | ⟨_, h, _⟩
  · omega
  · cases h

mutual
/-- texts of a size that memory has -/
def TxV : V → Prop
  | .mk _ _ _ _ _ _ text kids => text.size ≤ 1152921504606846976 ∧ TxL kids
def TxL : List V → Prop
  | [] => True
  | v :: l => TxV v ∧ TxL l
end
theorem txL_iff : ∀ (l : List V), TxL l ↔ ∀ v ∈ l, TxV v
  | [] => by simp [TxL]
  | v :: l => by simp [TxL, txL_iff l]
theorem smL_iff : ∀ (l : List V), SmL l ↔ ∀ v ∈ l, Sm v
  | [] => by simp [SmL]
  | v :: l => by simp [SmL, smL_iff l]
set_option maxRecDepth 100000 in
theorem check1_ok (v : V) (ha : AloneP v) (hs : Sm v) (htx : TxV v) (r : Raw) (D : Nat → Prop) (B : Nat) (sa : Nat → Addr) (w : World) (around : Nat) (g : GL B sa w) (ht : Tr w D r v) :
    Calls Tryz.prog 27 #[ER.val r, .int .i64 (around : Int)] w fun e w' => e = .returned (.bool false) ∧ Keep nob w w' := by
  have HRN := Lib.hid (range_new w r 39)
  have HKA : Hid (Keep nob w (w.alloc (.cells (ER.cells r).toArray 39))) := Lib.hid ((Keep.refl _ _).alloc _)
  have HC := Lib.hid (alone_ok ha r D B sa (w.alloc (.cells (ER.cells r).toArray 39)) (g.keep HKA.out (fun _ h => h.elim)) (Tr.keep HKA.out (nobD D) _ _ ht) hs (fun k n g m b e t kids e1 => by subst e1; unfold TxV at htx; exact htx.1))
  obtain ⟨x0, HX0⟩ : ∃ x0, Hid (w.alloc (.cells (ER.cells r).toArray 39) = x0) := ⟨_, Lib.hid rfl⟩
  obtain ⟨b0, HB0⟩ : ∃ b0, Hid (w.heap.size = b0) := ⟨_, Lib.hid rfl⟩
  rw [HX0.out, HB0.out] at HRN
  rw [HX0.out] at HKA HC
  obtain ⟨rk, rn, rneg, rA, rL, rC, rbits, rext, rtext, rkA, rkL, rkC⟩ := r
  simp only [ER] at HC ⊢
  have HX : Hid (w.alloc (.cells #[.int .i8 (rk : Int), .int .u64 (rn : Int), .bool rneg, .slice rA rL rC, .int .u64 (rbits : Int), .int .i8 rext, .string rtext, .slice rkA rkL rkC] 39) = x0) := HX0
  obtain ⟨a0, a1, a2, a3, a4, a5, a6, a7⟩ := cells_val HRN.out
  dsimp only at a0 a1 a2 a3 a4 a5 a6 a7
  clear HX0 ha hs htx g ht
  go_enter Tryz.func27, Tryz.ntmps27
  go_upto_region 1 with (fail)
  rw [HX.out, HB0.out]
  go_wp2_with (go_at_call 28; go_must (refine HC.out.mono ?_); rintro e w1 ⟨rfl, hk1⟩; have HK1 := Lib.hid hk1; clear hk1)
  go_ret
  exact ⟨rfl, HKA.out.then_ HK1.out⟩
set_option maxRecDepth 100000 in
theorem check2_ok (k n : Nat) (neg : Bool) (mag : List Nat) (bits : Nat) (ext : Int) (text : ByteArray) (kids : List V) (r : Raw) (D : Nat → Prop) (w : World) (around : Nat) (ht : Tr w D r (.mk k n neg mag bits ext text kids)) (h : isC k = true → around < 128) :
    Calls Tryz.prog 29 #[ER.val r, .int .i64 (around : Int)] w fun e w' => e = .returned (.bool false) ∧ Keep nob w w' := by
  have HRN := Lib.hid (range_new w r 39)
  have HKA : Hid (Keep nob w (w.alloc (.cells (ER.cells r).toArray 39))) := Lib.hid ((Keep.refl _ _).alloc _)
  have HC := Lib.hid (container_ok r (w.alloc (.cells (ER.cells r).toArray 39)))
  have hk := ht.1
  rw [← hk] at h
  obtain ⟨x0, HX0⟩ : ∃ x0, Hid (w.alloc (.cells (ER.cells r).toArray 39) = x0) := ⟨_, Lib.hid rfl⟩
  obtain ⟨b0, HB0⟩ : ∃ b0, Hid (w.heap.size = b0) := ⟨_, Lib.hid rfl⟩
  rw [HX0.out, HB0.out] at HRN
  rw [HX0.out] at HKA HC
  obtain ⟨rk, rn, rneg, rA, rL, rC, rbits, rext, rtext, rkA, rkL, rkC⟩ := r
  simp only [ER] at HC ⊢
  have HX : Hid (w.alloc (.cells #[.int .i8 (rk : Int), .int .u64 (rn : Int), .bool rneg, .slice rA rL rC, .int .u64 (rbits : Int), .int .i8 rext, .string rtext, .slice rkA rkL rkC] 39) = x0) := HX0
  obtain ⟨a0, a1, a2, a3, a4, a5, a6, a7⟩ := cells_val HRN.out
  dsimp only at a0 a1 a2 a3 a4 a5 a6 a7
  clear HX0 ht hk
  cases hc : isC rk with
  | true =>
    rw [hc] at HC h
    have hl := h rfl
    have hd : decide ((128 : Int) ≤ (around : Int)) = false := by rw [decide_eq_false_iff_not]; omega
    clear h hl
    go_enter Tryz.func29, Tryz.ntmps29
    go_upto_region 1 with (fail)
    rw [HX.out, HB0.out]
    go_wp2_with (go_at_call 30; go_must (refine HC.out.mono ?_); rintro e w1 ⟨rfl, hk1⟩; have HK1 := Lib.hid hk1; clear hk1)
    go_ret
    exact ⟨rfl, HKA.out.then_ HK1.out⟩
  | false =>
    rw [hc] at HC
    clear h
    go_enter Tryz.func29, Tryz.ntmps29
    go_upto_region 1 with (fail)
    rw [HX.out, HB0.out]
    go_wp2_with (go_at_call 30; go_must (refine HC.out.mono ?_); rintro e w1 ⟨rfl, hk1⟩; have HK1 := Lib.hid hk1; clear hk1)
    go_ret
    exact ⟨rfl, HKA.out.then_ HK1.out⟩

theorem alone_kids {k n : Nat} {neg : Bool} {mag : List Nat} {bits : Nat} {ext : Int} {text : ByteArray} {kids : List V} (h : AloneP (.mk k n neg mag bits ext text kids)) (hc : isC k = false) : kids = [] := by
  generalize hv : V.mk k n neg mag bits ext text kids = v at h
  cases h <;> (cases hv; first | rfl | exact absurd hc (by decide))
theorem hL_le : ∀ (l : List V), (∀ v ∈ l, hV v ≤ depV v + 1) → hL l ≤ depL l + 1
  | [], _ => by unfold hL; omega
  | v :: l, h => by
    unfold hL
    rw [depL_cons]
    have h1 := h v (List.mem_cons_self)
    have h2 := hL_le l (fun x hx => h x (List.mem_cons_of_mem _ hx))
    omega
theorem hV_le : ∀ v, AllV v → hV v ≤ depV v + 1
  | .mk k n neg mag bits ext text kids => fun h => by
    unfold AllV at h
    have h1 := hL_le kids (fun v _hv => hV_le v ((allL_iff _).1 h.2 v _hv))
    unfold hV depV
    by_cases hc : k = 7 ∨ k = 8 ∨ k = 9
    · rw [if_pos hc]; omega
    · rw [if_neg hc]
      have h2 := alone_kids h.1 (by unfold isC; simp only [Bool.or_eq_false_iff, beq_eq_false_iff_ne]; omega)
      subst h2
      unfold hL
      omega
termination_by v => SizeOf.sizeOf v
decreasing_by
  have := List.sizeOf_lt_of_mem _hv
  simp
  omega
theorem depL_mem {l : List V} {v : V} (h : v ∈ l) : depV v ≤ depL l := by
  obtain ⟨i, hi, rfl⟩ := List.getElem_of_mem h
  exact depL_le hi
set_option maxRecDepth 100000 in
theorem check_ok (v : V) (ha : AllV v) (hs : Sm v) (htx : TxV v) (hd : depV v ≤ 128) (r : Raw) (D : Nat → Prop) (B : Nat) (sa : Nat → Addr) (w : World) (g : GL B sa w) (ht : Tr w D r v) (hD : ∀ b, D b → b < w.heap.size) :
    Calls Tryz.prog 10 #[ER.val r] w fun e w' => e = .returned .nilIface ∧ Keep nob w w' := by
  have hh : hV v ≤ 1000 := by have := hV_le v ha; omega
  have HW1 := Lib.hid (fun (W : World) (hk : Keep nob w W) => walk_ok 27 (fun v _ => AllV v ∧ Sm v ∧ TxV v) B sa (fun args w => by go_simp) (fun v r D w around h _ g ht => by
      obtain ⟨h1, h2, h3⟩ := h
      obtain ⟨k, n, neg, mag, bits, ext, text, kids⟩ := v
      unfold AllV at h1
      exact check1_ok _ h1.1 h2 h3 r D B sa w around g ht)
    (fun kk n neg mag bits ext text kids around h v hv => by
      unfold AllV Sm TxV at h
      exact ⟨(allL_iff _).1 h.1.2 v hv, (smL_iff _).1 h.2.1.2.2.2 v hv, (txL_iff _).1 h.2.2.2 v hv⟩)
    v r D W (g.keep hk (fun _ h => h.elim)) (Tr.keep hk (nobD D) _ _ ht) (fun b hb => Nat.lt_of_lt_of_le (hD b hb) hk.size) (Nat.le_trans g.le hk.size) hh ⟨ha, hs, htx⟩)
  have HW2 := Lib.hid (fun (W : World) (hk : Keep nob w W) => walk_ok 29 (fun v around => AllV v ∧ around + depV v ≤ 128) B sa (fun args w => by go_simp) (fun v r D w around h _ g ht => by
      obtain ⟨h1, h2⟩ := h
      obtain ⟨k, n, neg, mag, bits, ext, text, kids⟩ := v
      refine check2_ok k n neg mag bits ext text kids r D w around ht (fun hc => ?_)
      unfold depV at h2
      rw [if_pos (by simpa [isC, or_assoc] using hc)] at h2
      omega)
    (fun kk n neg mag bits ext text kids around h v hv => by
      obtain ⟨h1, h2⟩ := h
      unfold AllV at h1
      refine ⟨(allL_iff _).1 h1.2 v hv, ?_⟩
      have h3 := depL_mem hv
      unfold depV at h2
      cases hc : isC kk with
      | true =>
        rw [if_pos (by simpa [isC, or_assoc] using hc)] at h2
        rw [if_pos rfl]
        omega
      | false =>
        have h4 := alone_kids h1.1 hc
        subst h4
        cases hv)
    v r D W (g.keep hk (fun _ h => h.elim)) (Tr.keep hk (nobD D) _ _ ht) (fun b hb => Nat.lt_of_lt_of_le (hD b hb) hk.size) (Nat.le_trans g.le hk.size) hh ⟨ha, by omega⟩)
  have HRN := Lib.hid (range_new w r 39)
  have HKA : Hid (Keep nob w (w.alloc (.cells (ER.cells r).toArray 39))) := Lib.hid ((Keep.refl _ _).alloc _)
  obtain ⟨x0, HX0⟩ : ∃ x0, Hid (w.alloc (.cells (ER.cells r).toArray 39) = x0) := ⟨_, Lib.hid rfl⟩
  obtain ⟨b0, HB0⟩ : ∃ b0, Hid (w.heap.size = b0) := ⟨_, Lib.hid rfl⟩
  rw [HX0.out, HB0.out] at HRN
  rw [HX0.out] at HKA
  clear g ht hD ha hs htx hd hh
  obtain ⟨rk, rn, rneg, rA, rL, rC, rbits, rext, rtext, rkA, rkL, rkC⟩ := r
  simp only [ER] at HW1 HW2 ⊢
  have HX : Hid (w.alloc (.cells #[.int .i8 (rk : Int), .int .u64 (rn : Int), .bool rneg, .slice rA rL rC, .int .u64 (rbits : Int), .int .i8 rext, .string rtext, .slice rkA rkL rkC] 39) = x0) := HX0
  obtain ⟨a0, a1, a2, a3, a4, a5, a6, a7⟩ := cells_val HRN.out
  dsimp only at a0 a1 a2 a3 a4 a5 a6 a7
  clear HX0
  go_enter Tryz.func10, Tryz.ntmps10
  go_upto_region 1 with (fail)
  rw [HX.out, HB0.out]
  go_upto_region 4 with (go_at_call 26; go_must (refine (HW1.out _ HKA.out).mono ?_); rintro e w1 ⟨rfl, hk1⟩; have HK1 := Lib.hid hk1; clear hk1)
  have HR1 := Lib.hid (range_keep HK1.out HRN.out)
  clear a0 a1 a2 a3 a4 a5 a6 a7
  obtain ⟨a0, a1, a2, a3, a4, a5, a6, a7⟩ := cells_val HR1.out
  dsimp only at a0 a1 a2 a3 a4 a5 a6 a7
  go_wp2_with (go_at_call 26; go_must (refine (HW2.out _ (HKA.out.then_ HK1.out)).mono ?_); rintro e w2 ⟨rfl, hk2⟩; have HK2 := Lib.hid hk2; clear hk2)
  go_ret
  exact ⟨rfl, (HKA.out.then_ HK1.out).then_ HK2.out⟩
end Go.Proofs.YticnefkdkkjgcaaGreatDoor

/- cruciblelaw23.other: no tag and no simple value within; the texts of what is read are no longer than the document. -/
namespace Go.Proofs.YticnefkdkkjgcaaGreatDoor
open Go.RowKit

/-! ### the texts of what is read -/
theorem take_sizeT {s : ByteArray} {p n q : Nat} {t : ByteArray} (h : takeR s p n = .ok t q) : t.size ≤ s.size := by
  unfold takeR at h
  split at h
  · cases h
  · simp only [R.ok.injEq] at h
    obtain ⟨rfl, -⟩ := h
    rw [ByteArray.size_extract]
    omega
theorem tx_nil {k n : Nat} {neg : Bool} {mag : List Nat} {bits : Nat} {ext : Int} : TxV (.mk k n neg mag bits ext ⟨#[]⟩ []) := by
  unfold TxV TxL
  exact ⟨by decide, trivial⟩
theorem tx_text {k n : Nat} {neg : Bool} {mag : List Nat} {bits : Nat} {ext : Int} {t : ByteArray} (h : t.size ≤ 1152921504606846976) : TxV (.mk k n neg mag bits ext t []) := by
  unfold TxV TxL
  exact ⟨h, trivial⟩
theorem tx_kids {k n : Nat} {neg : Bool} {mag : List Nat} {bits : Nat} {ext : Int} {l : List V} (h : TxL l) : TxV (.mk k n neg mag bits ext ⟨#[]⟩ l) := by
  unfold TxV
  exact ⟨by decide, h⟩
theorem tx_ofV {F X x : Nat} {L : Int} : TxV (ofV F L X x) := by
  unfold ofV
  split <;> exact tx_nil
section
variable {s : ByteArray} {it : Nat → R V} (hit : ∀ p v q, it p = .ok v q → TxV v)
include hit
theorem rounds_tx : ∀ (n p : Nat) (acc l : List V) (q : Nat), TxL acc → roundsN it n p acc = .ok l q → TxL l
  | 0, p, acc, l, q, ha, h => by
    simp only [roundsN, R.ok.injEq] at h
    obtain ⟨rfl, -⟩ := h
    exact ha
  | n + 1, p, acc, l, q, ha, h => by
    simp only [roundsN] at h
    cases hi : it p with
    | bad c r => rw [hi] at h; cases h
    | ok v p1 =>
      rw [hi] at h
      refine rounds_tx n p1 (acc ++ [v]) l q ((txL_iff _).2 fun y hy => ?_) h
      rcases List.mem_append.1 hy with hy | hy
      · exact (txL_iff _).1 ha y hy
      · obtain rfl := List.mem_singleton.1 hy; exact hit p _ p1 hi
theorem pairs_tx : ∀ (n p : Nat) (acc l : List V) (q : Nat), TxL acc → pairsN Wd it n p acc = .ok l q → TxL l
  | 0, p, acc, l, q, ha, h => by
    simp only [pairsN, R.ok.injEq] at h
    obtain ⟨rfl, -⟩ := h
    exact ha
  | n + 1, p, acc, l, q, ha, h => by
    simp only [pairsN] at h
    cases hi : it p with
    | bad c r => rw [hi] at h; cases h
    | ok v p1 =>
      rw [hi] at h
      simp only [R.bind] at h
      split at h
      · cases h
      cases hj : it p1 with
      | bad c r => rw [hj] at h; cases h
      | ok x p2 =>
        rw [hj] at h
        refine pairs_tx n p2 _ l q ((txL_iff _).2 fun y hy => ?_) h
        unfold insN at hy
        rcases List.mem_append.1 hy with hy | hy
        · exact (txL_iff _).1 ha y (List.mem_of_mem_take hy)
        · rcases List.mem_cons.1 hy with rfl | hy
          · exact hit p _ p1 hi
          · rcases List.mem_cons.1 hy with rfl | hy
            · exact hit p1 _ p2 hj
            · exact (txL_iff _).1 ha y (List.mem_of_mem_drop hy)
end
theorem fam_tx {s : ByteArray} (hs : s.size ≤ 1152921504606846976) {inner : Option (Nat → R V)} (hin : ∀ it, inner = some it → ∀ p v q, it p = .ok v q → TxV v) (fr : Nat) (f : Fam) (n p : Nat) {v : V} {q : Nat} (h : famR Wd s inner fr f n p = .ok v q) : TxV v := by
  cases f with
  | word =>
    simp only [famR, R.ok.injEq] at h
    obtain ⟨rfl, -⟩ := h
    split <;> exact tx_nil
  | whole => simp only [famR, R.ok.injEq] at h; obtain ⟨rfl, -⟩ := h; exact tx_nil
  | below => simp only [famR, R.ok.injEq] at h; obtain ⟨rfl, -⟩ := h; exact tx_nil
  | single => simp only [famR, R.ok.injEq] at h; obtain ⟨rfl, -⟩ := h; exact tx_ofV
  | double => simp only [famR, R.ok.injEq] at h; obtain ⟨rfl, -⟩ := h; exact tx_ofV
  | signed =>
    simp only [famR] at h
    cases ht : takeR s p n with
    | bad c r => rw [ht] at h; cases h
    | ok t p1 =>
      rw [ht] at h
      simp only [R.bind, R.ok.injEq] at h
      obtain ⟨rfl, -⟩ := h
      exact tx_nil
  | bytes =>
    simp only [famR] at h
    cases ht : takeR s p n with
    | bad c r => rw [ht] at h; cases h
    | ok t p1 =>
      rw [ht] at h
      simp only [R.bind, R.ok.injEq] at h
      obtain ⟨rfl, -⟩ := h
      exact tx_text (Nat.le_trans (take_sizeT ht) hs)
  | ext =>
    simp only [famR] at h
    cases ht : takeR s p 1 with
    | bad c r => rw [ht] at h; cases h
    | ok t p1 =>
      rw [ht] at h
      simp only [R.bind] at h
      cases hu : takeR s p1 n with
      | bad c r => rw [hu] at h; cases h
      | ok u p2 =>
        rw [hu] at h
        simp only [R.ok.injEq] at h
        obtain ⟨rfl, -⟩ := h
        exact tx_text (Nat.le_trans (take_sizeT hu) hs)
  | text =>
    simp only [famR] at h
    cases ht : textR s p n with
    | bad c r => rw [ht] at h; cases h
    | ok t p1 =>
      rw [ht] at h
      simp only [R.bind, R.ok.injEq] at h
      obtain ⟨rfl, -⟩ := h
      unfold textR at ht
      split at ht
      · cases ht
      exact tx_text (Nat.le_trans (take_sizeT ht) hs)
  | list =>
    cases inner with
    | none => cases h
    | some it =>
      simp only [famR] at h
      cases ht : roundsN it n p [] with
      | bad c r => rw [ht] at h; cases h
      | ok l p1 =>
        rw [ht] at h
        simp only [R.bind, R.ok.injEq] at h
        obtain ⟨rfl, -⟩ := h
        exact tx_kids (rounds_tx (hin it rfl) n p [] l p1 trivial ht)
  | pairs =>
    cases inner with
    | none => cases h
    | some it =>
      simp only [famR] at h
      cases ht : pairsN Wd it n p [] with
      | bad c r => rw [ht] at h; cases h
      | ok l p1 =>
        rw [ht] at h
        simp only [R.bind, R.ok.injEq] at h
        obtain ⟨rfl, -⟩ := h
        exact tx_kids (pairs_tx (hin it rfl) n p [] l p1 trivial ht)
theorem itemF_tx {s : ByteArray} (hs : s.size ≤ 1152921504606846976) {inner : Option (Nat → R V)} (hin : ∀ it, inner = some it → ∀ p v q, it p = .ok v q → TxV v) {p : Nat} {v : V} {q : Nat} (h : itemF Wd s inner p = .ok v q) : TxV v := by
  unfold itemF at h
  cases ht : takeR s p 1 with
  | bad c r => rw [ht] at h; cases h
  | ok t p1 =>
    rw [ht] at h
    simp only [R.bind] at h
    cases hp : pickN ((bl t).headD 0) with
    | none => rw [hp] at h; cases h
    | some x =>
      obtain ⟨f, n, w⟩ := x
      rw [hp] at h
      dsimp only at h
      by_cases hw : w = 0
      · rw [if_pos hw] at h
        exact fam_tx hs hin _ f n _ h
      · rw [if_neg hw] at h
        cases hu : takeR s p1 w with
        | bad c r => rw [hu] at h; cases h
        | ok u p2 =>
          rw [hu] at h
          exact fam_tx hs hin _ f _ _ h
theorem item_tx (s : ByteArray) (hs : s.size ≤ 1152921504606846976) : ∀ (d p : Nat) (v : V) (q : Nat), itemN Wd s d p = .ok v q → TxV v
  | 0, p, v, q, h => itemF_tx hs (inner := none) (fun _ e => by cases e) h
  | d + 1, p, v, q, h => itemF_tx hs (inner := some (itemN Wd s d)) (fun it e => by cases e; exact item_tx s hs d) h
theorem read_tx {s : ByteArray} (hs : s.size ≤ 1048576) {v : V} {q : Nat} (h : readN Wd s = .ok v q) : TxV v ∧ Sm v := by
  unfold readN at h
  cases hi : itemN Wd s 128 0 with
  | bad c q => rw [hi] at h; cases h
  | ok v' q' =>
    rw [hi] at h
    simp only [R.bind] at h
    split at h
    · cases h
    · simp only [R.ok.injEq] at h
      obtain ⟨rfl, rfl⟩ := h
      exact ⟨item_tx s (by omega) 128 0 _ _ hi, (item_does (by omega) 128 0 _ _ (Nat.zero_le _) hi).2⟩
end Go.Proofs.YticnefkdkkjgcaaGreatDoor

/- PackreadMay: plain facts of a document within others. -/
namespace Go.Proofs.YticnefkdkkjgcaaGreatDoor

theorem read_item {d : ByteArray} {v : V} {q : Nat} (h : readN Wd d = .ok v q) : itemN Wd d 128 0 = .ok v d.size ∧ q = d.size := by
  have hq := read_doc Wd h
  subst hq
  unfold readN at h
  cases hi : itemN Wd d 128 0 with
  | bad c q => rw [hi] at h; cases h
  | ok v' q' =>
    rw [hi] at h
    simp only [R.bind] at h
    split at h
    · cases h
    · simp only [R.ok.injEq] at h
      obtain ⟨rfl, rfl⟩ := h
      exact ⟨rfl, rfl⟩
/-- ahead of other bytes -/
theorem may_first {a b : ByteArray} {v : V} {q : Nat} (h : readN Wd a = .ok v q) : itemN Wd (a ++ b) 128 0 = .ok v a.size := by
  have h1 := (item_shift (Shift.first a b) flatWd 128 128 0 v a.size (Nat.zero_le _) (read_item h).1).2.1 (read_dep flatWd h)
  simpa using h1
/-- behind other bytes -/
theorem may_last {a b : ByteArray} {v : V} {q : Nat} (h : readN Wd b = .ok v q) : itemN Wd (a ++ b) 128 a.size = .ok v (a.size + b.size) := by
  have h1 := (item_shift (Shift.last a b) flatWd 128 128 0 v b.size (Nat.zero_le _) (read_item h).1).2.1 (read_dep flatWd h)
  simpa using h1
/-- within so many containers less -/
theorem may_in {hd a : ByteArray} {v : V} {q : Nat} (h : readN Wd a = .ok v q) : (depV v ≤ 127 → itemN Wd (hd ++ a) 127 hd.size = .ok v (hd.size + a.size)) ∧ (depV v = 128 → ∃ r, itemN Wd (hd ++ a) 127 hd.size = .bad 5 r) := by
  have h1 := (item_shift (Shift.last hd a) flatWd 128 127 0 v a.size (Nat.zero_le _) (read_item h).1).2
  rw [Nat.add_zero] at h1
  exact ⟨h1.1, fun e => h1.2 (by omega)⟩
/-- in a list of two -/
theorem may_list {a : ByteArray} {v : V} {q : Nat} (h : readN Wd a = .ok v q) : (depV v ≤ 127 → readN Wd (Bt [146, 0] ++ a) = .ok (V.lis [wholeV 0, v]) (Bt [146, 0] ++ a).size) ∧ (depV v = 128 → ∃ r, readN Wd (Bt [146, 0] ++ a) = .bad 5 r) := by
  have hz : (Bt [146, 0]).size = 2 := by rw [Bt_size]; rfl
  have hin := may_in (hd := Bt [146, 0]) h
  have h1 : itemF Wd (Bt [146, 0] ++ a) (some (itemN Wd (Bt [146, 0] ++ a) 127)) 0 = famR Wd (Bt [146, 0] ++ a) (some (itemN Wd (Bt [146, 0] ++ a) 127)) 0 .list 2 1 := by
    have := head_short Wd (f := 146) (n := 2) (fam := .list) (by decide) rfl (Bt [0] ++ a) (some (itemN Wd (Bt [146, 0] ++ a) 127))
    rw [← ByteArray.append_assoc] at this
    exact this
  have h2 : itemN Wd (Bt [146, 0] ++ a) 127 1 = .ok (wholeV 0) 2 := by
    have h3 : itemN Wd (Bt [0]) 128 0 = .ok (wholeV 0) 1 := by rfl
    have h4 := (item_shift (Shift.mk' (Bt [146]) (Bt [0]) a) flatWd 128 127 0 (wholeV 0) 1 (Nat.zero_le _) h3).2.1 (by have := flatWd.whole 0; exact (show depV (wholeV 0) = 0 from this) ▸ (by decide))
    exact h4
  have hsz : (Bt [146, 0] ++ a).size = 2 + a.size := by rw [ByteArray.size_append, hz]
  rw [hz] at hin
  have h5 : readN Wd (Bt [146, 0] ++ a) = ((itemN Wd (Bt [146, 0] ++ a) 127 2).bind fun x p => if p < (Bt [146, 0] ++ a).size then .bad 3 p else .ok (V.lis [wholeV 0, x]) p) := by
    unfold readN
    rw [show itemN Wd (Bt [146, 0] ++ a) 128 0 = itemF Wd (Bt [146, 0] ++ a) (some (itemN Wd (Bt [146, 0] ++ a) 127)) 0 from rfl, h1]
    simp only [famR, roundsN, h2, R.bind]
    cases itemN Wd (Bt [146, 0] ++ a) 127 2 <;> rfl
  rw [h5]
  refine ⟨fun hd => ?_, fun hd => ?_⟩
  · rw [hin.1 hd]
    simp only [R.bind]
    rw [if_neg (by rw [hsz]; omega), hsz]
  · obtain ⟨r, hr⟩ := hin.2 hd
    rw [hr]
    exact ⟨r, rfl⟩
/-- in a map of one pair -/
theorem may_map {a : ByteArray} {v : V} {q : Nat} (h : readN Wd a = .ok v q) : (depV v ≤ 127 → readN Wd (Bt [223, 0, 0, 0, 1, 161, 107] ++ a) = .ok (V.map [V.tex (Bt [107]), v]) (Bt [223, 0, 0, 0, 1, 161, 107] ++ a).size) ∧ (depV v = 128 → ∃ r, readN Wd (Bt [223, 0, 0, 0, 1, 161, 107] ++ a) = .bad 5 r) := by
  have hz : (Bt [223, 0, 0, 0, 1, 161, 107]).size = 7 := by rw [Bt_size]; rfl
  have hin := may_in (hd := Bt [223, 0, 0, 0, 1, 161, 107]) h
  have h1 : itemF Wd (Bt [223, 0, 0, 0, 1, 161, 107] ++ a) (some (itemN Wd (Bt [223, 0, 0, 0, 1, 161, 107] ++ a) 127)) 0 = famR Wd (Bt [223, 0, 0, 0, 1, 161, 107] ++ a) (some (itemN Wd (Bt [223, 0, 0, 0, 1, 161, 107] ++ a) 127)) 0 .pairs 1 5 := by
    have := head_wide Wd (f := 223) (w := 4) (x := 1) (n := 0) (fam := .pairs) (by decide) rfl (by decide) (by decide) (Bt [161, 107] ++ a) (some (itemN Wd (Bt [223, 0, 0, 0, 1, 161, 107] ++ a) 127))
    rw [← ByteArray.append_assoc] at this
    exact this
  have h2 : itemN Wd (Bt [223, 0, 0, 0, 1, 161, 107] ++ a) 127 5 = .ok (V.tex (Bt [107])) 7 := by
    have h3 : itemN Wd (Bt [161, 107]) 128 0 = .ok (V.tex (Bt [107])) 2 := by rfl
    have h4 := (item_shift (Shift.mk' (Bt [223, 0, 0, 0, 1]) (Bt [161, 107]) a) flatWd 128 127 0 (V.tex (Bt [107])) 2 (Nat.zero_le _) h3).2.1 (by decide)
    exact h4
  have hsz : (Bt [223, 0, 0, 0, 1, 161, 107] ++ a).size = 7 + a.size := by rw [ByteArray.size_append, hz]
  rw [hz] at hin
  have h5 : readN Wd (Bt [223, 0, 0, 0, 1, 161, 107] ++ a) = ((itemN Wd (Bt [223, 0, 0, 0, 1, 161, 107] ++ a) 127 7).bind fun x p => if p < (Bt [223, 0, 0, 0, 1, 161, 107] ++ a).size then .bad 3 p else .ok (V.map [V.tex (Bt [107]), x]) p) := by
    unfold readN
    rw [show itemN Wd (Bt [223, 0, 0, 0, 1, 161, 107] ++ a) 128 0 = itemF Wd (Bt [223, 0, 0, 0, 1, 161, 107] ++ a) (some (itemN Wd (Bt [223, 0, 0, 0, 1, 161, 107] ++ a) 127)) 0 from rfl, h1]
    simp only [famR, pairsN, h2, R.bind]
    rw [if_neg (by decide)]
    cases itemN Wd (Bt [223, 0, 0, 0, 1, 161, 107] ++ a) 127 7 <;> rfl
  rw [h5]
  refine ⟨fun hd => ?_, fun hd => ?_⟩
  · rw [hin.1 hd]
    simp only [R.bind]
    rw [if_neg (by rw [hsz]; omega), hsz]
  · obtain ⟨r, hr⟩ := hin.2 hd
    rw [hr]
    exact ⟨r, rfl⟩
end Go.Proofs.YticnefkdkkjgcaaGreatDoor

/- The numbers that heads hold, as values: wholeV, belowV, twosV by what they are worth. Plain Lean. -/
namespace Go.Proofs.YticnefkdkkjgcaaGreatDoor

theorem cutL_numL (x : Nat) : cutL (numL x) = numL x := by rw [cutL_num (numL_bd x), valL_numL]
theorem whole_num {x : Nat} (h : x < 18446744073709551616) : wholeV x = V.int false (numL x) := by
  unfold wholeV
  rw [(two32_num h).1, cutL_numL]
  simp [negN]
theorem below_num {x : Nat} (h : x < 18446744073709551616) : belowV x = V.int (decide (0 < x)) (numL x) := by
  unfold belowV
  rw [(two32_num h).1, (two32_num h).2, cutL_numL]
  have e : cutN (numL x) (numL x).length = (numL x).length := by
    have := cutN_num (numL_bd x)
    rw [valL_numL] at this
    exact this
  rw [e]
  simp [negN, numL_pos_iff]
theorem beN_from : ∀ (l : List Nat) (x : Nat), l.foldl (fun x b => x * 256 + b) x = x * 256 ^ l.length + beN l
  | [], x => by simp [beN]
  | y :: l, x => by
    unfold beN
    rw [List.foldl_cons, List.foldl_cons, beN_from l, beN_from l (0 * 256 + y), List.length_cons, Nat.pow_succ, Nat.zero_mul, Nat.zero_add, Nat.add_mul, Nat.mul_assoc, Nat.mul_comm 256, Nat.add_assoc]
theorem beN_cons (x : Nat) (l : List Nat) : beN (x :: l) = x * 256 ^ l.length + beN l := by
  rw [beN, List.foldl_cons, beN_from, Nat.zero_mul, Nat.zero_add]
/-- the limbs that bytes fill: what they are worth -/
def Low (k : Nat) (m : List Nat) : Prop := ∀ j, 2 ^ (8 * min 4 (k - 4 * j)) ∣ m.getD j 0
theorem valL_set : ∀ (m : List Nat) (j x : Nat), j < m.length → valL (m.set j (m.getD j 0 + x)) = valL m + 4294967296 ^ j * x
  | [], j, x, h => by simp at h
  | a :: m, 0, x, _ => by simp [valL]; omega
  | a :: m, j + 1, x, h => by
    have h1 := valL_set m j x (by simpa using h)
    simp only [List.set_cons_succ, valL, List.getD_cons_succ, h1, Nat.pow_succ]
    rw [Nat.mul_add, ← Nat.mul_assoc, Nat.mul_comm 4294967296 (4294967296 ^ j)]
    omega
theorem limb_val : ∀ (k : Nat) (b m : List Nat), B8 b → k ≤ b.length → k ≤ 4 * m.length → Low k m → valL (limbG b k m) = valL m + beN (b.drop (b.length - k))
  | 0, b, m, _, _, _, _ => by simp [limbG, beN]
  | k + 1, b, m, hb, hk, hm, hl => by
    have hx : b.getD (b.length - 1 - k) 0 < 256 := by
      rw [List.getD_eq_getElem?_getD, List.getElem?_eq_getElem (by omega)]
      exact hb _ (List.getElem_mem _)
    obtain ⟨x, HX⟩ : ∃ x, b.getD (b.length - 1 - k) 0 = x := ⟨_, rfl⟩
    rw [HX] at hx
    have hd := hl (k / 4)
    rw [show min 4 (k + 1 - 4 * (k / 4)) = k % 4 + 1 by omega] at hd
    obtain ⟨q, hq⟩ := hd
    have hor : m.getD (k / 4) 0 ||| x * 2 ^ (k % 4 * 8) = m.getD (k / 4) 0 + x * 2 ^ (k % 4 * 8) := by
      have hlt : x * 2 ^ (k % 4 * 8) < 2 ^ (8 * (k % 4 + 1)) := by
        rw [show 8 * (k % 4 + 1) = 8 + k % 4 * 8 by omega, Nat.pow_add]
        exact Nat.mul_lt_mul_of_pos_right hx (Nat.two_pow_pos _)
      rw [hq, Nat.two_pow_add_eq_or_of_lt hlt]
    have hlow : Low k (m.set (k / 4) (m.getD (k / 4) 0 + x * 2 ^ (k % 4 * 8))) := by
      intro j
      by_cases hj : j = k / 4
      · subst hj
        rw [List.getD_eq_getElem?_getD, List.getElem?_set_self (by omega), Option.getD_some, hq, show min 4 (k - 4 * (k / 4)) = k % 4 by omega]
        refine Nat.dvd_add (Nat.dvd_trans (Nat.pow_dvd_pow 2 (by omega)) (Nat.dvd_mul_right _ _)) ?_
        rw [Nat.mul_comm 8]
        exact Nat.dvd_mul_left _ _
      · rw [List.getD_eq_getElem?_getD, List.getElem?_set_ne (Ne.symm hj), ← List.getD_eq_getElem?_getD]
        exact Nat.dvd_trans (Nat.pow_dvd_pow 2 (by omega)) (hl j)
    rw [limbG, HX, hor, limb_val k b _ hb (by omega) (by rw [List.length_set]; omega) hlow, valL_set _ _ _ (by omega), Nat.add_assoc]
    congr 1
    have hdr : b.drop (b.length - (k + 1)) = x :: b.drop (b.length - k) := by
      rw [List.drop_eq_getElem_cons (by omega), show b.length - (k + 1) + 1 = b.length - k by omega]
      congr 1
      rw [← HX, List.getD_eq_getElem?_getD, List.getElem?_eq_getElem (by omega), Option.getD_some]
      congr 1
      omega
    rw [hdr, beN_cons, List.length_drop, show b.length - (b.length - k) = k by omega]
    congr 1
    rw [← Nat.mul_assoc, Nat.mul_comm _ x, Nat.mul_assoc]
    congr 1
    rw [show (4294967296 : Nat) = 2 ^ 32 from rfl, show (256 : Nat) = 2 ^ 8 from rfl, ← Nat.pow_mul, ← Nat.pow_mul, ← Nat.pow_add]
    congr 1
    omega
theorem beN_snoc (l : List Nat) (y : Nat) : beN (l ++ [y]) = beN l * 256 + y := by
  unfold beN
  rw [List.foldl_append]
  rfl
theorem beN_top {l : List Nat} (h : B8 l) : beN l < 256 ^ l.length := by
  have := beN_fold l 0 h
  simpa [beN] using this
theorem flip_drop : ∀ (n : Nat) (l : List Nat) (c : Nat), (flipF l c n).drop n = l.drop n
  | 0, _, _ => rfl
  | i + 1, l, c => by
    rw [flipF]
    have h := flip_drop i (l.set i ((255 - l.getD i 0 + c) % 256)) (if (255 - l.getD i 0 + c) % 256 = 0 then c else 0)
    have h1 := congrArg (List.drop 1) h
    rw [List.drop_drop, List.drop_drop, List.drop_set_of_lt (by omega)] at h1
    exact h1
theorem flip_val : ∀ (n : Nat) (l : List Nat) (c : Nat), B8 l → n ≤ l.length → c ≤ 1 → beN ((flipF l c n).take n) = (256 ^ n - 1 - beN (l.take n) + c) % 256 ^ n
  | 0, l, c, _, _, _ => by simp [beN, Nat.mod_one]
  | i + 1, l, c, hb, hn, hc => by
    obtain ⟨x, HX⟩ : ∃ x, l.getD i 0 = x := ⟨_, rfl⟩
    have hxg : l[i]'(by omega) = x := by rw [← HX, List.getD_eq_getElem?_getD, List.getElem?_eq_getElem (by omega), Option.getD_some]
    have hx : x < 256 := by rw [← hxg]; exact hb _ (List.getElem_mem _)
    have hA := beN_top (l := l.take i) (fun z hz => hb z (List.mem_of_mem_take hz))
    rw [List.length_take, Nat.min_eq_left (by omega)] at hA
    rw [flipF, HX]
    obtain ⟨y, HY⟩ : ∃ y, (255 - x + c) % 256 = y := ⟨_, rfl⟩
    rw [HY]
    obtain ⟨c', HC⟩ : ∃ c', (if y = 0 then c else 0) = c' := ⟨_, rfl⟩
    rw [HC]
    have hy : y < 256 := by omega
    have ih := flip_val i (l.set i y) c' (hb.set i hy) (by rw [List.length_set]; omega) (by rw [← HC]; split <;> omega)
    rw [List.take_set_of_le (Nat.le_refl i)] at ih
    have hlen : i < (flipF (l.set i y) c' i).length := by rw [flipF_len, List.length_set]; omega
    have hgi : (flipF (l.set i y) c' i)[i]'hlen = y := by
      have h1 := flip_drop i (l.set i y) c'
      have h2 := congrArg List.head? h1
      rw [List.head?_drop, List.head?_drop, List.getElem?_eq_getElem hlen, List.getElem?_set_self (by omega)] at h2
      exact Option.some.inj h2
    rw [List.take_succ_eq_append_getElem hlen, hgi, beN_snoc, ih, List.take_succ_eq_append_getElem (by omega), hxg, beN_snoc, Nat.pow_succ]
    generalize beN (l.take i) = a at hA ⊢
    generalize 256 ^ i = t at hA ⊢
    by_cases h0 : 255 - x + c = 256
    · have hy0 : y = 0 := by rw [← HY, h0]
      have hc1 : c' = 1 := by rw [← HC, if_pos hy0]; omega
      subst hy0 hc1
      rw [show t * 256 - 1 - (a * 256 + x) + c = 256 * (t - 1 - a + 1) by omega, Nat.mul_comm t 256, Nat.mul_mod_mul_left]
      omega
    · have hy0 : y = 255 - x + c := by rw [← HY]; exact Nat.mod_eq_of_lt (by omega)
      have hc0 : c' = 0 := by rw [← HC]; split <;> omega
      subst hc0
      rw [Nat.mod_eq_of_lt (by omega), Nat.mod_eq_of_lt (by omega)]
      omega
theorem limb_bd : ∀ (k : Nat) (b m : List Nat), B8 b → Bd m → Bd (limbG b k m)
  | 0, _, _, _, h => h
  | k + 1, b, m, hb, h => by
    rw [limbG]
    refine limb_bd k b _ hb (fun z hz => ?_)
    rcases List.mem_or_eq_of_mem_set hz with hz | rfl
    · exact h z hz
    · have h1 : m.getD (k / 4) 0 < 2 ^ 32 := by
        rw [List.getD_eq_getElem?_getD]
        cases hg : m[k / 4]? with
        | none => decide
        | some v => exact h v (List.mem_of_getElem? hg)
      have h2 : b.getD (b.length - 1 - k) 0 * 2 ^ (k % 4 * 8) < 2 ^ 32 := by
        have h3 : b.getD (b.length - 1 - k) 0 < 2 ^ 8 := by
          rw [List.getD_eq_getElem?_getD]
          cases hg : b[b.length - 1 - k]? with
          | none => decide
          | some v => exact hb v (List.mem_of_getElem? hg)
        have h4 : (2 : Nat) ^ (k % 4 * 8) ≤ 2 ^ 24 := Nat.pow_le_pow_right (by decide) (by omega)
        calc b.getD (b.length - 1 - k) 0 * 2 ^ (k % 4 * 8) < 2 ^ 8 * 2 ^ (k % 4 * 8) := Nat.mul_lt_mul_of_pos_right h3 (Nat.two_pow_pos _)
          _ ≤ 2 ^ 8 * 2 ^ 24 := Nat.mul_le_mul_left _ h4
          _ = 2 ^ 32 := by decide
      exact Nat.or_lt_two_pow h1 h2
theorem two_val (t : ByteArray) : Bd (twoL t) ∧ valL (twoL t) = beN (if 128 ≤ (bl t).headD 0 then flipF (bl t) 1 t.size else bl t) := by
  unfold twoL
  obtain ⟨L, HL⟩ : ∃ L, (if 128 ≤ (bl t).headD 0 then flipF (bl t) 1 t.size else bl t) = L := ⟨_, rfl⟩
  rw [HL]
  have hlen : L.length = t.size := by rw [← HL]; split <;> simp only [flipF_len, bl_len]
  have hb : B8 L := by
    rw [← HL]
    split
    · exact flipF_B8 _ _ _ (B8.bl t)
    · exact B8.bl t
  have hz : ∀ z ∈ List.replicate ((t.size + 3) / 4) 0, z = 0 := fun z hz => (List.mem_replicate.1 hz).2
  have hbd : Bd (List.replicate ((t.size + 3) / 4) 0) := fun z h => by rw [hz z h]; decide
  refine ⟨limb_bd _ _ _ hb hbd, ?_⟩
  rw [limb_val t.size L _ hb (by omega) (by rw [List.length_replicate]; omega) (fun j => ?_), valL_zero hz, Nat.zero_add, hlen, Nat.sub_self, List.drop_zero]
  rw [List.getD_eq_getElem?_getD]
  cases hg : (List.replicate ((t.size + 3) / 4) 0)[j]? with
  | none => exact Nat.dvd_zero _
  | some v => rw [Option.getD_some, hz v (List.mem_of_getElem? hg)]; exact Nat.dvd_zero _
/-- a number in so many bytes, its sign in the highest bit -/
theorem twos_num (n x : Nat) (hx : x < 256 ^ (n + 1)) : twosV (Bt (beL (n + 1) x)) = if 128 * 256 ^ n ≤ x then V.int true (numL (256 ^ (n + 1) - x)) else V.int false (numL x) := by
  obtain ⟨hbd, hv⟩ := two_val (Bt (beL (n + 1) x))
  have hbl : bl (Bt (beL (n + 1) x)) = beL (n + 1) x := bl_Bt (beL_8 _ _)
  have hsz : (Bt (beL (n + 1) x)).size = n + 1 := by rw [Bt_size, beL_len]
  have hd : (beL (n + 1) x).headD 0 = x / 256 ^ n := by
    rw [beL, List.headD_cons]
    refine Nat.mod_eq_of_lt (Nat.div_lt_of_lt_mul ?_)
    rwa [Nat.pow_succ] at hx
  have hiff : 128 ≤ x / 256 ^ n ↔ 128 * 256 ^ n ≤ x := Nat.le_div_iff_mul_le (Nat.pow_pos (by decide))
  unfold twosV
  rw [hbl, hsz] at hv
  rw [hbl]
  rw [hd] at hv ⊢
  obtain ⟨L, HL⟩ : ∃ L, twoL (Bt (beL (n + 1) x)) = L := ⟨_, rfl⟩
  rw [HL] at hv hbd ⊢
  rw [cutL_num hbd, cutN_num hbd, cutL_numL]
  have hcc : cutN (numL (valL L)) (numL (valL L)).length = (numL (valL L)).length := by
    have := cutN_num (numL_bd (valL L))
    rw [valL_numL] at this
    exact this
  rw [hcc]
  by_cases hneg : 128 ≤ x / 256 ^ n
  · rw [if_pos hneg] at hv
    rw [if_pos (hiff.1 hneg)]
    have hf := flip_val (n + 1) (beL (n + 1) x) 1 (beL_8 _ _) (by rw [beL_len]; exact Nat.le_refl _) (Nat.le_refl _)
    rw [List.take_of_length_le (by rw [flipF_len, beL_len]; exact Nat.le_refl _), List.take_of_length_le (by rw [beL_len]; exact Nat.le_refl _), beN_be_lt hx] at hf
    have hx0 : 0 < x := Nat.lt_of_lt_of_le (Nat.mul_pos (by decide) (Nat.pow_pos (by decide))) (hiff.1 hneg)
    rw [show 256 ^ (n + 1) - 1 - x + 1 = 256 ^ (n + 1) - x by omega, Nat.mod_eq_of_lt (by omega)] at hf
    rw [hv, hf]
    have hp : 0 < (numL (256 ^ (n + 1) - x)).length := (numL_pos_iff _).2 (by omega)
    simp [negN, hneg, hp]
  · rw [if_neg hneg, beN_be_lt hx] at hv
    rw [if_neg (fun h => hneg (hiff.2 h)), hv]
    simp [negN, hneg]
end Go.Proofs.YticnefkdkkjgcaaGreatDoor

/- The documents of numbers: what is read of a head and its bytes. Plain Lean. -/
namespace Go.Proofs.YticnefkdkkjgcaaGreatDoor

theorem doc_whole (f w x : Nat) (hf : f < 256) (hp : pickN f = some (.whole, 0, w)) (hw : w ≠ 0) (hx : x < 256 ^ w) : readN Wd (Bt (f :: beL w x)) = .ok (wholeV x) (Bt (f :: beL w x)).size := by
  refine readN_of ?_
  have h := head_wide Wd hf hp hw hx ByteArray.empty (some (itemN Wd (Bt (f :: beL w x)) 127))
  rw [ByteArray.append_empty] at h
  rw [show ∀ s, itemN Wd s 128 0 = itemF Wd s (some (itemN Wd s 127)) 0 from fun _ => rfl, h, wide_size]
  rfl
theorem doc_short (f n : Nat) (hf : f < 256) (hp : pickN f = some (.whole, n, 0)) : readN Wd (Bt [f]) = .ok (wholeV n) (Bt [f]).size := by
  refine readN_of ?_
  have h := head_short Wd hf hp ByteArray.empty (some (itemN Wd (Bt [f]) 127))
  rw [ByteArray.append_empty] at h
  rw [show ∀ s, itemN Wd s 128 0 = itemF Wd s (some (itemN Wd s 127)) 0 from fun _ => rfl, h, Bt_size]
  rfl
theorem doc_below (f n : Nat) (hf : f < 256) (hp : pickN f = some (.below, n, 0)) : readN Wd (Bt [f]) = .ok (belowV n) (Bt [f]).size := by
  refine readN_of ?_
  have h := head_short Wd hf hp ByteArray.empty (some (itemN Wd (Bt [f]) 127))
  rw [ByteArray.append_empty] at h
  rw [show ∀ s, itemN Wd s 128 0 = itemF Wd s (some (itemN Wd s 127)) 0 from fun _ => rfl, h, Bt_size]
  rfl
theorem doc_signed (f n x : Nat) (hf : f < 256) (hp : pickN f = some (.signed, n, 0)) : readN Wd (Bt (f :: beL n x)) = .ok (twosV (Bt (beL n x))) (Bt (f :: beL n x)).size := by
  refine readN_of ?_
  have e : Bt (f :: beL n x) = Bt [f] ++ Bt (beL n x) := by
    apply ByteArray.ext
    simp [Bt]
  have h := head_short Wd hf hp (Bt (beL n x)) (some (itemN Wd (Bt (f :: beL n x)) 127))
  rw [← e] at h
  rw [show ∀ s, itemN Wd s 128 0 = itemF Wd s (some (itemN Wd s 127)) 0 from fun _ => rfl, h, wide_size]
  have ht : takeR (Bt (f :: beL n x)) 1 n = .ok (Bt (beL n x)) (n + 1) := by
    have h1 := take_rest (Bt [f]) (Bt (beL n x))
    rw [← e, wide_size, Bt_size, Bt_size, beL_len] at h1
    exact h1
  simp only [famR, ht, R.bind]
  rfl
theorem beL_mod : ∀ (n m x : Nat), n ≤ m → beL n (x % 256 ^ m) = beL n x
  | 0, _, _, _ => rfl
  | n + 1, m, x, h => by
    rw [beL, beL, beL_mod n m x (by omega)]
    congr 1
    rw [show m = n + (m - n) by omega, Nat.pow_add, Nat.mod_mul_right_div_self]
    refine Nat.mod_mod_of_dvd _ ?_
    rw [show m - n = (m - n - 1) + 1 by omega, Nat.pow_succ]
    exact Nat.dvd_mul_left _ _
/-- an integer as a value -/
def intW (z : Int) : V := V.int (decide (z < 0)) (numL z.natAbs)
theorem whole_int {x : Nat} (h : x < 18446744073709551616) : wholeV x = intW (x : Int) := by
  rw [whole_num h]
  unfold intW
  rw [Int.natAbs_natCast, decide_eq_false (by omega)]
theorem below_int {x : Nat} (h : x < 18446744073709551616) : belowV x = intW (-(x : Int)) := by
  rw [below_num h]
  unfold intW
  rw [Int.natAbs_neg, Int.natAbs_natCast]
  congr 1
  simp
/-- a number of two's complement in n + 1 bytes, handed in as 64 bits -/
theorem twos_int (n u : Nat) (z : Int) (hn : n + 1 ≤ 8) (hu : (u : Int) = z % 18446744073709551616) (h1 : -(128 * 256 ^ n : Nat) ≤ z) (h2 : z < (128 * 256 ^ n : Nat)) : twosV (Bt (beL (n + 1) u)) = intW z := by
  have hp : 0 < 256 ^ n := Nat.pow_pos (by decide)
  have hs : 256 ^ (n + 1) = 256 * 256 ^ n := by rw [Nat.pow_succ, Nat.mul_comm]
  have hd : ((256 ^ (n + 1) : Nat) : Int) ∣ 18446744073709551616 := by
    have : 256 ^ (n + 1) ∣ 256 ^ 8 := Nat.pow_dvd_pow 256 hn
    exact Int.natCast_dvd_natCast.2 this
  have hm : ((u % 256 ^ (n + 1) : Nat) : Int) = z % ((256 ^ (n + 1) : Nat) : Int) := by
    rw [Int.natCast_emod, hu, Int.emod_emod_of_dvd _ hd]
  rw [← beL_mod (n + 1) (n + 1) u (Nat.le_refl _), twos_num n _ (Nat.mod_lt _ (Nat.pow_pos (by decide)))]
  generalize u % 256 ^ (n + 1) = y at hm
  rw [hs] at hm ⊢
  generalize 256 ^ n = t at *
  unfold intW
  rcases Int.lt_or_le z 0 with hz | hz
  · have e : z % ((256 * t : Nat) : Int) = z + (256 * t : Nat) := by
      rw [← Int.add_emod_right, Int.emod_eq_of_lt (by omega) (by omega)]
    rw [e] at hm
    rw [if_pos (by omega), decide_eq_true hz, show 256 * t - y = z.natAbs by omega]
  · rw [Int.emod_eq_of_lt hz (by omega)] at hm
    rw [if_neg (by omega), decide_eq_false (by omega), show y = z.natAbs by omega]
end Go.Proofs.YticnefkdkkjgcaaGreatDoor

/- Numbers as bytes, element by element, the highest or the lowest byte first. Plain Lean. -/
namespace Go.Proofs.YticnefkdkkjgcaaGreatDoor

/-- a number's n bytes, by the order -/
def elL (little : Bool) (n u : Nat) : List Nat := if little then (beL n u).reverse else beL n u
theorem elL_len (little : Bool) (n u : Nat) : (elL little n u).length = n := by
  unfold elL
  split
  · rw [List.length_reverse, beL_len]
  · exact beL_len n u
theorem elL_8 (little : Bool) (n u : Nat) : B8 (elL little n u) := by
  unfold elL
  split
  · exact fun x hx => beL_8 n u x (List.mem_reverse.1 hx)
  · exact beL_8 n u
/-- one behind the other -/
def encL (little : Bool) (n : Nat) : List Nat → List Nat
  | [] => []
  | u :: l => elL little n u ++ encL little n l
theorem encL_len (little : Bool) (n : Nat) : ∀ l : List Nat, (encL little n l).length = n * l.length
  | [] => by simp [encL]
  | u :: l => by rw [encL, List.length_append, elL_len, encL_len little n l, List.length_cons, Nat.mul_succ, Nat.add_comm]
theorem encL_8 (little : Bool) (n : Nat) : ∀ l : List Nat, B8 (encL little n l)
  | [] => fun x hx => by simp [encL] at hx
  | u :: l => B8.app (elL_8 little n u) (encL_8 little n l)
theorem encL_app (little : Bool) (n : Nat) : ∀ l l' : List Nat, encL little n (l ++ l') = encL little n l ++ encL little n l'
  | [], _ => rfl
  | u :: l, l' => by rw [List.cons_append, encL, encL, encL_app little n l l', List.append_assoc]
/-- a byte of it: by its element, and its place in that -/
theorem encL_get (little : Bool) (n : Nat) (hn : 0 < n) : ∀ (l : List Nat) (i : Nat), i < n * l.length → (encL little n l).getD i 0 = (elL little n (l.getD (i / n) 0)).getD (i % n) 0
  | [], i, h => by simp at h
  | u :: l, i, h => by
    rw [encL]
    rcases Nat.lt_or_ge i n with h1 | h1
    · rw [Nat.div_eq_of_lt h1, Nat.mod_eq_of_lt h1, List.getD_cons_zero, List.getD_eq_getElem?_getD, List.getElem?_append_left (by rw [elL_len]; exact h1), ← List.getD_eq_getElem?_getD]
    · rw [List.length_cons, Nat.mul_succ] at h
      have ih := encL_get little n hn l (i - n) (by omega)
      rw [List.getD_eq_getElem?_getD, List.getElem?_append_right (by rw [elL_len]; exact h1), elL_len, ← List.getD_eq_getElem?_getD, ih, Nat.div_eq_sub_div hn h1, Nat.mod_eq_sub_mod h1, List.getD_cons_succ]
theorem rev_getD (l : List Nat) (i : Nat) (h : i < l.length) : l.reverse.getD i 0 = l.getD (l.length - 1 - i) 0 := by
  rw [List.getD_eq_getElem?_getD, List.getD_eq_getElem?_getD, List.getElem?_reverse h]
/-- the two orders are each other, turned about element by element -/
theorem encL_turn (n : Nat) (hn : 0 < n) (l : List Nat) (i : Nat) (h : i < n * l.length) : (encL false n l).getD i 0 = (encL true n l).getD (i / n * n + n - 1 - i % n) 0 := by
  have h1 := Nat.mod_lt i hn
  have h2 := Nat.div_add_mod i n
  have h3 : i / n < l.length := Nat.div_lt_of_lt_mul h
  have h5 : (i / n + 1) * n ≤ l.length * n := Nat.mul_le_mul_right n h3
  have h6 : i / n * n + n - 1 - i % n = (n - 1 - i % n) + n * (i / n) := by rw [Nat.mul_comm n]; omega
  have h4 : i / n * n + n - 1 - i % n < n * l.length := by rw [Nat.mul_comm n]; rw [Nat.add_mul] at h5; omega
  have hr : n - 1 - i % n < n := by omega
  rw [encL_get false n hn l i h, encL_get true n hn l _ h4, h6, Nat.add_mul_div_left _ _ hn, Nat.div_eq_of_lt hr, Nat.zero_add, Nat.add_mul_mod_self_left, Nat.mod_eq_of_lt hr]
  unfold elL
  rw [if_neg (by decide), if_pos rfl, rev_getD _ _ (by rw [beL_len]; exact hr), beL_len, show n - 1 - (n - 1 - i % n) = i % n by omega]
/-- the number that an element's bytes are -/
def numB (little : Bool) (b : List Nat) : Nat := beN (if little then b.reverse else b)
theorem num_el (little : Bool) (n u : Nat) : numB little (elL little n u) = u % 256 ^ n := by
  unfold numB elL
  cases little with
  | false => simp only [Bool.false_eq_true, if_false]; exact beN_be n u
  | true => simp only [if_true, List.reverse_reverse]; exact beN_be n u
/-- bytes read element by element -/
def decL (little : Bool) (n : Nat) : Nat → List Nat → List Nat
  | 0, _ => []
  | m + 1, b => numB little (b.take n) :: decL little n m (b.drop n)
theorem dec_enc (little : Bool) (n : Nat) : ∀ l : List Nat, decL little n l.length (encL little n l) = l.map (fun u => u % 256 ^ n)
  | [] => rfl
  | u :: l => by
    have h1 : (elL little n u ++ encL little n l).take n = elL little n u := by rw [List.take_append_of_le_length (by rw [elL_len]; exact Nat.le_refl _), List.take_of_length_le (by rw [elL_len]; exact Nat.le_refl _)]
    have h2 : (elL little n u ++ encL little n l).drop n = encL little n l := by
      have := List.drop_left (l₁ := elL little n u) (l₂ := encL little n l)
      rwa [elL_len] at this
    rw [List.length_cons, encL, decL, h1, h2, num_el, dec_enc little n l, List.map_cons]
/-! ### the whole numbers of a kind -/
/-- has the kind of n bytes, with a sign or without, the number? (n = 8 without a sign: what is not below 0 of an int64) -/
def hasN (signed : Bool) (n : Nat) (z : Int) : Bool := if signed then decide (-(128 * 256 ^ (n - 1) : Nat) ≤ z ∧ z < (128 * 256 ^ (n - 1) : Nat)) else decide (0 ≤ z ∧ z < (256 ^ n : Nat))
/-- the number that an element's pattern is -/
def valN (signed : Bool) (n x : Nat) : Int := if signed ∧ 128 * 256 ^ (n - 1) ≤ x then (x : Int) - (256 ^ n : Nat) else x
/-- 64 bits of an integer -/
def bits64 (z : Int) : Nat := (z % 18446744073709551616).toNat
theorem bits64_eq (z : Int) : ((bits64 z : Nat) : Int) = z % 18446744073709551616 := by unfold bits64; omega
theorem pow_dvd64 {n : Nat} (hn : n ≤ 8) : ((256 ^ n : Nat) : Int) ∣ 18446744073709551616 := by
  have : 256 ^ n ∣ 256 ^ 8 := Nat.pow_dvd_pow 256 hn
  exact Int.natCast_dvd_natCast.2 this
/-- there and back -/
theorem val_bits (signed : Bool) (n : Nat) (hn : 0 < n) (h8 : n ≤ 8) (z : Int) (h : hasN signed n z = true) : valN signed n (bits64 z % 256 ^ n) = z := by
  have hm : ((bits64 z % 256 ^ n : Nat) : Int) = z % ((256 ^ n : Nat) : Int) := by
    rw [Int.natCast_emod, bits64_eq, Int.emod_emod_of_dvd _ (pow_dvd64 h8)]
  have hs : 256 ^ n = 256 * 256 ^ (n - 1) := by rw [← Nat.pow_succ', show (n - 1).succ = n by omega]
  have hp : 0 < 256 ^ (n - 1) := Nat.pow_pos (by decide)
  unfold hasN at h
  unfold valN
  generalize bits64 z % 256 ^ n = x at hm
  rw [hs] at hm ⊢
  generalize 256 ^ (n - 1) = t at *
  cases signed with
  | false =>
    simp only [Bool.false_eq_true, if_false, decide_eq_true_eq] at h
    rw [hs] at h
    simp only [Bool.false_eq_true, false_and, if_false]
    rw [hm, Int.emod_eq_of_lt h.1 h.2]
  | true =>
    simp only [if_true, decide_eq_true_eq] at h
    simp only [true_and]
    rcases Int.lt_or_le z 0 with hz | hz
    · have e : z % ((256 * t : Nat) : Int) = z + (256 * t : Nat) := by
        rw [← Int.add_emod_right, Int.emod_eq_of_lt (by omega) (by omega)]
      rw [e] at hm
      rw [if_pos (by omega)]
      omega
    · rw [Int.emod_eq_of_lt hz (by omega)] at hm
      rw [if_neg (by omega)]
      omega
theorem dec_ints (little signed : Bool) (n : Nat) (hn : 0 < n) (h8 : n ≤ 8) (l : List Int) (h : ∀ z ∈ l, hasN signed n z = true) : (decL little n l.length (encL little n (l.map bits64))).map (valN signed n) = l := by
  have h1 := dec_enc little n (l.map bits64)
  rw [List.length_map] at h1
  rw [h1, List.map_map, List.map_map]
  have h2 : ∀ z ∈ l, ((valN signed n ∘ (fun u => u % 256 ^ n)) ∘ bits64) z = z := fun z hz => val_bits signed n hn h8 z (h z hz)
  rw [List.map_congr_left h2, List.map_id']
/-- a number that is there is a value whose number is it -/
theorem val_word (signed : Bool) (n x : Nat) (hn : 0 < n) (h8 : n ≤ 8) (hx : x < 256 ^ n) : -9223372036854775808 ≤ valN signed n x ∧ valN signed n x < 18446744073709551616 := by
  have h1 : 256 ^ n ≤ 256 ^ 8 := Nat.pow_le_pow_right (by decide) h8
  have hs : 256 ^ n = 256 * 256 ^ (n - 1) := by rw [← Nat.pow_succ', show (n - 1).succ = n by omega]
  have e8 : (256 : Nat) ^ 8 = 18446744073709551616 := by decide
  unfold valN
  rw [hs] at hx h1 ⊢
  generalize 256 ^ (n - 1) = t at *
  split <;> omega
end Go.Proofs.YticnefkdkkjgcaaGreatDoor

/- Numbers as patterns of 64 bits, and read again. Plain Lean. -/
namespace Go.Proofs.YticnefkdkkjgcaaGreatDoor

theorem bitsN_shift {m : Nat} (k : Nat) (h : 0 < m) : bitsN (m * 2 ^ k) = bitsN m + k := by
  obtain ⟨h1, h2⟩ := pow_bits h
  have h0 : 1 ≤ bitsN m := by
    rcases Nat.eq_zero_or_pos (bitsN m) with h0 | h0
    · rw [h0] at h2; omega
    · exact h0
  rw [show bitsN m + k = (bitsN m - 1 + k) + 1 by omega]
  apply bitsN_eq
  · rw [Nat.pow_add]
    exact Nat.mul_le_mul_right _ h1
  · rw [show bitsN m - 1 + k + 1 = bitsN m + k by omega, Nat.pow_add]
    exact Nat.mul_lt_mul_of_pos_right h2 (Nat.two_pow_pos k)
theorem lt_limbs {N q : Nat} (h : bitsN N ≤ 32 * q) : N < 4294967296 ^ q := by
  rw [pow32]
  exact Nat.lt_of_lt_of_le (bitsN_lt N) (Nat.pow_le_pow_right (by decide) h)
theorem exact64_shift (g : Bool) (m k : Nat) (h : m * 2 ^ k < 9007199254740992) : exact64 g (m * 2 ^ k) 0 = exact64 g m (k : Int) := by
  have hp := Nat.two_pow_pos k
  have hle : m ≤ m * 2 ^ k := Nat.le_mul_of_pos_right _ hp
  rcases Nat.eq_zero_or_pos m with h0 | h0
  · subst h0
    rw [Nat.zero_mul]
    unfold exact64
    rw [if_pos rfl, if_pos rfl]
  · have hA0 : m * 2 ^ k ≠ 0 := by omega
    have hm0 : m ≠ 0 := by omega
    have hb := bitsN_shift k h0
    have h53 : bitsN (m * 2 ^ k) ≤ 53 := bitsN_le (by omega)
    unfold exact64
    rw [if_neg hA0, if_neg hm0, bitLen_two _ (by omega), bitLen_two m (by omega), hb]
    obtain ⟨last, hl⟩ : ∃ last : Int, last = max (((bitsN m + k : Nat) : Int) - 53 + 0) (-1074) := ⟨_, rfl⟩
    have hl2 : max ((bitsN m : Int) - 53 + (k : Int)) (-1074) = last := by rw [hl]; congr 1; omega
    have hl0 : last ≤ 0 := by omega
    have he : m * 2 ^ k * 2 ^ (0 - last).toNat = m * 2 ^ ((k : Int) - last).toNat := by
      rw [Nat.mul_assoc, ← Nat.pow_add]
      congr 2
      omega
    simp only [hl2, ← hl, he]
/-- a number m times 2 to the k that a pattern of 64 bits just is -/
def Fits (g : Bool) (m k : Nat) : Prop := (m = 0 ∧ k = 0 ∧ g = false) ∨ ((∃ j, m = 2 * j + 1) ∧ m < 9007199254740992 ∧ bitsN m + k ≤ 1024)
theorem fits_parts {g : Bool} {m k : Nat} (h : Fits g m k) : partsN 52 (-1074) 11 (exact64 g m k) = some (g, m, (k : Int)) ∧ exact64 g m k < 18446744073709551616 := by
  rcases h with ⟨rfl, rfl, rfl⟩ | ⟨⟨j, rfl⟩, h1, h2⟩
  · decide
  · exact parts_exact g j k h1 (by omega) (by omega)
theorem fits_int {g : Bool} {m k : Nat} (h : Fits g m k) : intN 52 (-1074) 11 (exact64 g m k) = some (g, m * 2 ^ k) := by
  unfold intN
  rw [(fits_parts h).1]
  dsimp only
  rw [if_neg (by omega), Int.toNat_natCast]
  rcases h with ⟨rfl, rfl, rfl⟩ | ⟨⟨j, rfl⟩, -, -⟩
  · rfl
  · rw [decide_eq_true (by omega), Bool.and_true]
theorem fits_of {g : Bool} {m k : Nat} (h : Fits g m k) : ofV 52 (-1074) 11 (exact64 g m k) = V.int g (numL (m * 2 ^ k)) := by
  unfold ofV
  rw [fits_int h]
/-- a small integer -/
theorem small_fits (z : Int) (h : z.natAbs < 65536) : ∃ m k, Fits (decide (z < 0)) m k ∧ m * 2 ^ k = z.natAbs := by
  rcases Nat.eq_zero_or_pos z.natAbs with h0 | h0
  · refine ⟨0, 0, .inl ⟨rfl, rfl, ?_⟩, by omega⟩
    rw [decide_eq_false_iff_not]
    omega
  · obtain ⟨j, hj, hc⟩ := ctz_spec h0 (by omega)
    have hp := Nat.two_pow_pos (Lib.ctz 64 z.natAbs)
    have hle : 2 * j + 1 ≤ z.natAbs := by
      have := Nat.mul_le_mul_right (2 * j + 1) hp
      omega
    refine ⟨2 * j + 1, Lib.ctz 64 z.natAbs, .inr ⟨⟨j, rfl⟩, by omega, ?_⟩, by rw [Nat.mul_comm]; exact hj.symm⟩
    have hb : bitsN (2 * j + 1) ≤ 16 := bitsN_le (by omega)
    omega
/-- a pattern of 32 bits is a whole number, or stays what it is in 64 bits -/
theorem single_of (x : Nat) : (∃ g m k, Fits g m k ∧ ofV 23 (-149) 8 x = V.int g (numL (m * 2 ^ k))) ∨ (∃ b, b < 18446744073709551616 ∧ ofV 23 (-149) 8 x = V.flo b ∧ ofV 52 (-1074) 11 b = V.flo b) := by
  unfold ofV
  cases hp : partsN 23 (-149) 8 x with
  | none =>
    right
    have hi : intN 23 (-149) 8 x = none := by unfold intN; rw [hp]
    rw [hi]
    have ht : to64N 23 (-149) 8 x = 9218868437227405312 ∨ to64N 23 (-149) 8 x = 18442240474082181120 ∨ to64N 23 (-149) 8 x = 9221120237041090560 := by
      unfold to64N
      rw [hp]
      dsimp only
      split
      · cases decide (2 ^ (23 + 8) ≤ x)
        · exact .inl rfl
        · exact .inr (.inl rfl)
      · exact .inr (.inr rfl)
    obtain ⟨t, htt⟩ : ∃ t, to64N 23 (-149) 8 x = t := ⟨_, rfl⟩
    rw [htt] at ht
    dsimp only
    rw [htt]
    refine ⟨t, ?_, rfl, ?_⟩
    · rcases ht with rfl | rfl | rfl <;> decide
    · have hn : intN 52 (-1074) 11 t = none := by rcases ht with rfl | rfl | rfl <;> decide
      have hv : to64N 52 (-1074) 11 t = t := by rcases ht with rfl | rfl | rfl <;> decide
      rw [hn]
      dsimp only
      rw [hv]
  | some y =>
    obtain ⟨neg, m, e⟩ := y
    have hb := parts_odd (F := 23) (X := 8) (L := -149) (by decide) (by decide) (by decide) (by decide) (by decide) (by decide) hp
    by_cases he : e < 0
    · right
      have hi : intN 23 (-149) 8 x = none := by unfold intN; rw [hp]; dsimp only; rw [if_pos he]
      have ht : to64N 23 (-149) 8 x = exact64 neg m e := by unfold to64N; rw [hp]
      rw [hi]
      dsimp only
      rw [ht]
      rcases hb with ⟨-, h0⟩ | ⟨j, rfl, h1, h2, h3⟩
      · omega
      · obtain ⟨h4, h5⟩ := parts_exact neg j e h1 h2 h3
        refine ⟨_, h5, rfl, ?_⟩
        have hi2 : intN 52 (-1074) 11 (exact64 neg (2 * j + 1) e) = none := by unfold intN; rw [h4]; dsimp only; rw [if_pos he]
        have ht2 : to64N 52 (-1074) 11 (exact64 neg (2 * j + 1) e) = exact64 neg (2 * j + 1) e := by unfold to64N; rw [h4]
        rw [hi2]
        dsimp only
        rw [ht2]
    · left
      obtain ⟨k, rfl⟩ := Int.eq_ofNat_of_zero_le (Int.not_lt.1 he)
      have hi : intN 23 (-149) 8 x = some (neg && decide (0 < m), m * 2 ^ k) := by unfold intN; rw [hp]; dsimp only; rw [if_neg he, Int.toNat_natCast]
      rw [hi]
      dsimp only
      refine ⟨neg && decide (0 < m), m, k, ?_, rfl⟩
      rcases hb with ⟨rfl, h0⟩ | ⟨j, rfl, h1, h2, h3⟩
      · exact .inl ⟨rfl, by omega, by simp⟩
      · exact .inr ⟨⟨j, rfl⟩, h1, by omega⟩
/-- the pattern of 64 bits that a number just is -/
def BitsP (v : V) (b : Nat) : Prop := (∃ g m k, Fits g m k ∧ v = V.int g (numL (m * 2 ^ k)) ∧ b = exact64 g m k) ∨ (b < 18446744073709551616 ∧ v = V.flo b)
theorem small_bits (z : Int) (h : z.natAbs < 65536) : ∃ e, BitsP (intW z) e ∧ e < 18446744073709551616 ∧ ofV 52 (-1074) 11 e = intW z := by
  obtain ⟨m, k, h1, h2⟩ := small_fits z h
  have e : intW z = V.int (decide (z < 0)) (numL (m * 2 ^ k)) := by unfold intW; rw [h2]
  refine ⟨exact64 (decide (z < 0)) m k, .inl ⟨_, m, k, h1, e, rfl⟩, (fits_parts h1).2, ?_⟩
  rw [fits_of h1, e]
theorem single_bits (x : Nat) : ∃ e, BitsP (ofV 23 (-149) 8 x) e ∧ e < 18446744073709551616 ∧ ofV 52 (-1074) 11 e = ofV 23 (-149) 8 x := by
  rcases single_of x with ⟨g, m, k, h1, h2⟩ | ⟨b, h1, h2, h3⟩
  · exact ⟨exact64 g m k, .inl ⟨g, m, k, h1, h2, rfl⟩, (fits_parts h1).2, by rw [fits_of h1, h2]⟩
  · exact ⟨b, .inr ⟨h1, h2⟩, h1, by rw [h3, h2]⟩
/-! ### the documents of floats -/
theorem doc_single (x : Nat) (hx : x < 4294967296) : readN Wd (Bt (202 :: beL 4 x)) = .ok (ofV 23 (-149) 8 x) (Bt (202 :: beL 4 x)).size := by
  refine readN_of ?_
  have h := head_wide Wd (f := 202) (by decide) (by rfl) (by decide) (show x < 256 ^ 4 from hx) ByteArray.empty (some (itemN Wd (Bt (202 :: beL 4 x)) 127))
  rw [ByteArray.append_empty] at h
  rw [show ∀ s, itemN Wd s 128 0 = itemF Wd s (some (itemN Wd s 127)) 0 from fun _ => rfl, h, wide_size]
  rfl
theorem doc_double (x : Nat) (hx : x < 18446744073709551616) : readN Wd (Bt (203 :: beL 8 x)) = .ok (ofV 52 (-1074) 11 x) (Bt (203 :: beL 8 x)).size := by
  refine readN_of ?_
  have h := head_wide Wd (f := 203) (by decide) (by rfl) (by decide) (show x < 256 ^ 8 from hx) ByteArray.empty (some (itemN Wd (Bt (203 :: beL 8 x)) 127))
  rw [ByteArray.append_empty] at h
  rw [show ∀ s, itemN Wd s 128 0 = itemF Wd s (some (itemN Wd s 127)) 0 from fun _ => rfl, h, wide_size]
  rfl
end Go.Proofs.YticnefkdkkjgcaaGreatDoor

/- Numbers as bytes: byte by byte, as the loops make and read them; the values. Plain Lean. -/
namespace Go.Proofs.YticnefkdkkjgcaaGreatDoor

theorem beL_get : ∀ (n x i : Nat), i < n → (beL n x).getD i 0 = x / 256 ^ (n - 1 - i) % 256
  | n + 1, x, 0, _ => by rw [beL, List.getD_cons_zero, show n + 1 - 1 - 0 = n by omega]
  | n + 1, x, i + 1, h => by rw [beL, List.getD_cons_succ, beL_get n x i (by omega), show n + 1 - 1 - (i + 1) = n - 1 - i by omega]
/-- how far an element's i-th byte is shifted down, in bytes -/
def shiftB (little : Bool) (n i : Nat) : Nat := if little then i else n - 1 - i
theorem elL_get (little : Bool) (n x i : Nat) (h : i < n) : (elL little n x).getD i 0 = x / 256 ^ shiftB little n i % 256 := by
  unfold elL shiftB
  cases little with
  | false => exact beL_get n x i h
  | true =>
    simp only [if_true]
    rw [rev_getD _ _ (by rw [beL_len]; exact h), beL_len, beL_get n x _ (by omega), show n - 1 - (n - 1 - i) = i by omega]
theorem take_getD {l : List Nat} {i x : Nat} (h : i < l.length) (hx : l.getD i 0 = x) : l.take (i + 1) = l.take i ++ [x] := by
  rw [List.take_succ_eq_append_getElem h]
  rw [List.getD_eq_getElem?_getD, List.getElem?_eq_getElem h, Option.getD_some] at hx
  rw [hx]
/-- a round of the inner loop that makes the bytes -/
theorem elL_round (little : Bool) (n x i : Nat) (h : i < n) : (elL little n x).take (i + 1) = (elL little n x).take i ++ [x / 256 ^ shiftB little n i % 256] :=
  take_getD (by rw [elL_len]; exact h) (elL_get little n x i h)
theorem elL_full (little : Bool) (n x : Nat) : (elL little n x).take n = elL little n x := List.take_of_length_le (by rw [elL_len]; exact Nat.le_refl _)
/-- an element's bytes, the highest first -/
def ordB (little : Bool) (b : List Nat) : List Nat := if little then b.reverse else b
theorem ordB_get (little : Bool) (b : List Nat) (i : Nat) (h : i < b.length) : (ordB little b).getD i 0 = b.getD (shiftB (!little) b.length i) 0 := by
  unfold ordB shiftB
  cases little with
  | false => rfl
  | true => simp only [if_true, Bool.not_true, Bool.false_eq_true, if_false]; exact rev_getD b i h
theorem ordB_len (little : Bool) (b : List Nat) : (ordB little b).length = b.length := by
  unfold ordB
  split
  · exact List.length_reverse
  · rfl
/-- a round of the loop that reads them -/
theorem num_round (little : Bool) (b : List Nat) (i : Nat) (h : i < b.length) : beN ((ordB little b).take (i + 1)) = beN ((ordB little b).take i) * 256 + b.getD (shiftB (!little) b.length i) 0 := by
  rw [take_getD (by rw [ordB_len]; exact h) rfl, ordB_get little b i h, beN_snoc]
theorem num_full (little : Bool) (b : List Nat) : beN ((ordB little b).take b.length) = numB little b := by
  rw [List.take_of_length_le (by rw [ordB_len]; exact Nat.le_refl _)]
  rfl
/-- a typed array as a value: its tag, its bytes -/
def arrV (tag : Nat) (b : List Nat) : V := .mk 9 tag false [] 0 0 ⟨#[]⟩ [V.byt (Bt b)]
/-- whole numbers as a list -/
def intsV (l : List Int) : V := V.lis (l.map intW)
theorem int_all (z : Int) : AllV (intW z) := by
  unfold intW
  have h1 := all_int (decide (z < 0)) (numL z.natAbs)
  obtain ⟨c1, c2⟩ := numL_cut z.natAbs
  rw [c2, c1, c1] at h1
  have hg : negN (decide (z < 0)) (numL z.natAbs).length = decide (z < 0) := by
    unfold negN
    rcases Int.lt_or_le z 0 with h0 | h0
    · rw [decide_eq_true h0, decide_eq_true ((numL_pos_iff _).2 (by omega))]; rfl
    · rw [decide_eq_false (by omega)]; rfl
  rw [c2, hg] at h1
  exact h1.1
theorem ints_all (l : List Int) : AllV (intsV l) := by
  unfold intsV V.lis
  refine ⟨.lis _, (allL_iff _).2 (fun v hv => ?_)⟩
  obtain ⟨z, -, rfl⟩ := List.mem_map.1 hv
  exact int_all z
theorem arr_all (tag : Nat) (b : List Nat) (h : 4 ≤ tag) : AllV (arrV tag b) := by
  unfold arrV
  exact ⟨.tag tag _ (by omega) (by omega), ⟨.byt _, trivial⟩, trivial⟩
end Go.Proofs.YticnefkdkkjgcaaGreatDoor
