/- packread's family of texts: the walk. -/
import Derived.Test.YtiemkfibpfndaaaGreatDoorPa2
namespace Go.Proofs.YtiemkfibpfndaaaGreatDoor
open Go.RowKit

theorem withinN_lt {l : List Nat} {k : Nat} : ∀ (n i : Nat) {q : Nat}, withinN l k n i = some q → q < l.length
  | 0, _, _, h => by simp [withinN] at h
  | n + 1, i, q, h => by
    simp only [withinN] at h
    split at h
    · rename_i h1
      split at h
      · exact withinN_lt n (i + 1) h
      · simp only [Option.some.injEq] at h; omega
    · cases h
theorem firstN_le {l : List Nat} {n q : Nat} (h : firstN l n = some q) : q ≤ l.length := by
  unfold firstN at h
  split at h
  · simp only [Option.some.injEq] at h; omega
  · split at h
    · simp only [Option.some.injEq] at h; omega
    · split at h
      · simp only [Option.some.injEq] at h; omega
      · exact Nat.le_of_lt (withinN_lt _ _ h)
/-- an error's end -/
theorem fam_bad {sa : Nat → Addr} {b b4 bb c q op : Nat} {s : ByteArray} {w w0 w8 w9 w10 : World} {X : R V} (hX : Hid (X = R.bad c q)) (HK0 : Hid (Keep nob w w0)) (HKW : Keep (· = b) w0 w8) (HK9 : Keep (· = b) w8 w9) (k : Keep (· = b4) w9 w10) (HL0 : Hid (w.heap.size ≤ b4 ∧ b4 < w0.heap.size))
    (he : FErr sa w9 (fun j => w8.heap.size ≤ j) (.iface 86 (.pointer (some ⟨bb, 0, none⟩))) c q) : FamPost sa b s op w X (.returned (.tuple #[ER.val Raw.zero, .iface 86 (.pointer (some ⟨bb, 0, none⟩))])) w10 := by
  rw [hX.out]
  have h1 := HL0.out
  have h2 := HKW.size
  exact ⟨_, rfl, (((HK0.out.mono (fun _ _ h => h.elim)).then_ HKW).then_ HK9).trans k (fun j h3 h4 => by omega), (he.keep k (fun j hj e => by omega)).mono (fun j _ hj => by have := HK0.out.size; omega)⟩
set_option maxRecDepth 100000 in
theorem text_ok (b : Nat) (s : ByteArray) (p fr op n B : Nat) (sa : Nat → Addr) (w : World) (g : GL B sa w) (_hB : B ≤ b) (hr : Rd w b s p fr op) (hp : p ≤ s.size) (hs : s.size ≤ 1152921504606846900) (hn : n < 18446744073709551616) : Calls Tryz.prog 65 #[.pointer (some ⟨b, 0, none⟩), .int .u64 (n : Int)] w
    (FamPost sa b s op w ((textR s p n).bind fun t p' => .ok (V.tex t) p')) := by
  obtain ⟨w0, b4, HW0, HB4, HK0, HT0, HL0⟩ := start w
  have hr0 := hr.keep HK0.out (fun h => h)
  have h0 := hr0.c0
  have h1 := hr0.c1
  obtain ⟨E, HE⟩ : ∃ E, Hid (min n (s.size - p) = E) := ⟨_, Lib.hid rfl⟩
  have hE : (if s.size - p < n then ((s.size - p : Nat) : Int) else (n : Int)) = (E : Int) := by rw [← HE.out]; split <;> omega
  obtain ⟨X, HX⟩ : ∃ X, Hid ((textR s p n).bind (fun t p' => R.ok (V.tex t) p') = X) := ⟨_, Lib.hid rfl⟩
  rw [HX.out]
  have i1 : IntKind.i64.wrap ((s.size : Int) - (p : Int)) = ((s.size - p : Nat) : Int) := by rw [IntWalk.i64_left, IntWalk.wrap64_in _ ⟨by omega, by omega⟩]; omega
  have i2 : IntKind.u64.wrap ((s.size - p : Nat) : Int) = ((s.size - p : Nat) : Int) := by rw [IntKind.wrap_u64]; omega
  have HEL : Hid (E ≤ s.size - p ∧ E ≤ n) := by unfold Hid; rw [← HE.out]; omega
  have i3 : IntKind.i64.wrap (E : Int) = (E : Int) := by have := HEL.out; rw [IntWalk.i64_left, IntWalk.wrap64_in _ ⟨by omega, by omega⟩]
  have i4 : IntKind.i64.wrap ((p : Int) + (E : Int)) = ((p + E : Nat) : Int) := by have := HEL.out; rw [IntWalk.i64_left, IntWalk.wrap64_in _ ⟨by omega, by omega⟩]; omega
  have HBB : Hid (b < w.heap.size) := Lib.hid (World.block_lt_of_cell? w _ hr.c0)
  go_enter Tryz.func65, Tryz.ntmps65
  go_upto_region 1 with (fail)
  rw [HW0.out, HB4.out]
  go_quiet (fail)
  go_upto_region 2 with (fail)
  go_quiet (fail)
  obtain ⟨t, HT⟩ : ∃ t, Hid (s.extract p (p + E) = t) := ⟨_, Lib.hid rfl⟩
  rw [HT.out]
  have hts : t.size = E := by have := HEL.out; rw [← HT.out, ByteArray.size_extract]; omega
  have HBT : Hid (textR s p n = match ScanAt (bl t) n 0 with | some i => .bad 3 (p + i) | none => takeR s p n) := by
    unfold Hid textR
    have := HEL.out
    rw [HE.out, HT.out, ScanAt, List.drop_zero, Nat.sub_zero, Nat.sub_zero, scan_fuel (m' := (bl t).length) (by rw [bl_len]; omega) (Nat.le_refl _) (by rw [bl_len]; omega)]
    cases scanN (bl t).length (bl t) n <;> rfl
  have HLT : Hid ((bl t).length = E) := by unfold Hid; rw [bl_len, hts]
  have HS := Lib.hid hs
  have HPS := Lib.hid hp
  have HTS := Lib.hid hts
  have HG := Lib.hid g
  have HR0 := Lib.hid hr0
  clear h0 h1 i1 i2 i3 i4 hts hs hp
  go_wp2_with (fail)
  go_loopw [5, 8, 9, 10, 11, 12, 13] (fun u5 u8 u9 u10 u11 u12 u13 wr => ∃ i : Nat, i ≤ E ∧ u5 = .nilIface ∧ u8 = .int .i64 (i : Int) ∧ Hid (ScanAt (bl t) n i = ScanAt (bl t) n 0) ∧ Hid (Keep nob w0 wr)) (fun _ u8 _ _ _ _ _ _ => E - (intOf u8).toNat)
  case atStart => exact ⟨0, Nat.zero_le _, rfl, rfl, Lib.hid rfl, Lib.hid (((Keep.refl _ _).drewN _).drewN _)⟩
  case round =>
    obtain ⟨i, hi, rfl, rfl, HSC, HK⟩ := hrel
    have hr1 := HR0.out.keep HK.out (fun h => h)
    have h1 := hr1.c1
    have HRD := fun (wv : World) (hk : Keep nob w0 wv) => take_ok b s p fr op n B sa wv ((HG.out.keep HK0.out (fun _ h => h.elim)).keep hk (fun _ h => h.elim)) (HR0.out.keep hk (fun h => h)) HPS.out (by have := HS.out; omega) hn
    have HRD := Lib.hid HRD
    have HU8 : Hid (∀ (Y : R V) , ScanAt (bl t) n i = none → Hid ((takeR s p n).bind (fun t p' => R.ok (V.tex t) p') = Y) → X = Y) := by
      intro Y h1 h2
      rw [← HX.out, HBT.out, ← HSC.out, h1, ← h2.out]
    by_cases hie : i < E
    · have hlt : (i : Int) < (t.size : Int) := by rw [HTS.out]; omega
      have hF := utfFirst_ok t i (by have := HS.out; have := HTS.out; have := HEL.out; omega) (by have := HS.out; have := HTS.out; have := HEL.out; omega) 
      cases hu : utfN ((bl t).drop i) with
      | some x =>
        obtain ⟨r, k⟩ := x
        have HU : Hid (utfK ((bl t).drop i) = some k) := by unfold Hid; rw [utfK, hu]; rfl
        rw [hu] at hF
        simp only [FirstE] at hF
        have hk := utfK_pos HU.out
        rw [List.length_drop, HLT.out] at hk
        have HK9 := Lib.hid hk
        have HI := Lib.hid hie
        have i5 : IntKind.i64.wrap ((i : Int) + (k : Int)) = (i : Int) + (k : Int) := by have := HS.out; have := HEL.out; rw [IntWalk.i64_left, IntWalk.wrap64_in _ ⟨by omega, by omega⟩]
        clear hk hu hie
        go_wp2_with (go_at_call 93; go_must (refine (hF _).mono ?_); rintro e w1 ⟨rfl, rfl⟩)
        have := HK9.out
        have := HI.out
        refine ⟨⟨i + k, by omega, rfl, by simp, ?_, HK⟩, by simp [intOf]; omega⟩
        unfold Hid
        rw [← HSC.out]
        exact (scan_at_step (by rw [HLT.out]; exact HI.out) (by rw [HLT.out]; exact HEL.out.2) HU.out).symm
      | none =>
        have HU : Hid (utfK ((bl t).drop i) = none) := by unfold Hid; rw [utfK, hu]; rfl
        rw [hu] at hF
        simp only [FirstE] at hF
        have HFN := Lib.hid (scan_at_bad (n := n) (p := i) (by rw [HLT.out]; exact hie) HU.out)
        have e6 : ((n - i : Nat) : Int) = (n : Int) - (i : Int) := by have := HEL.out; omega
        have hG := first_ok (t.extract i t.size) (n - i) (by have := HS.out; have := HTS.out; have := HEL.out; rw [ByteArray.size_extract]; omega) (by rw [ByteArray.size_extract, HTS.out]; omega) (by omega)
        have e7 : bl (t.extract i t.size) = (bl t).drop i := by rw [bl_extract, List.take_of_length_le (by rw [bl_len]; exact Nat.le_refl _)]
        rw [e7, e6] at hG
        obtain ⟨y, HY⟩ : ∃ y, Hid (firstN ((bl t).drop i) (n - i) = y) := ⟨_, Lib.hid rfl⟩
        rw [HY.out] at HFN hG
        cases y with
        | none =>
          simp only [WithinE] at hG
          go_upto_region 11 with (first | (go_at_call 93; go_must (refine (hF _).mono ?_); rintro e w1 ⟨rfl, rfl⟩) | (go_at_call 94; go_must (refine (hG _).mono ?_); rintro e w2 ⟨rfl, hk2⟩))
          have HNONE : Hid (ScanAt (bl t) n i = none) := by unfold Hid; rw [HFN.out]; rfl
          have HKW : Hid (Keep nob w0 w2) := Lib.hid (HK.out.then_ hk2)
          cases ht : takeR s p n with
          | bad c q =>
            have HX2 := Lib.hid (HU8.out (.bad c q) HNONE.out (Lib.hid (by rw [ht]; rfl)))
            have hT := HRD.out w2 HKW.out
            rw [ht] at hT
            dsimp only at hT
            go_wp2_with (go_at_call 39; go_must (refine hT.mono ?_); rintro e w9 ⟨ev, rfl, hk9, he⟩; have HK9 := Lib.hid hk9; clear hk9; obtain ⟨bb, rfl, he1⟩ := he; obtain ⟨v0, v1, v2, v3, v4, v5, v6, v7, ⟨c0, c1, c2, c3, c4, c5, c6, c7⟩, f0, f1, f2, f3, f4, f5, f6, f7⟩ := eight ((HT0.out.keep' HKW.out).keep' HK9.out))
            obtain ⟨w10, e10, r10, k10⟩ := put8 ((HT0.out.keep' HKW.out).keep' HK9.out) Raw.zero (.int .i8 0) (.int .u64 0) (.bool false) (.slice none 0 0) (.int .u64 0) (.int .i8 0) (.string ⟨#[]⟩) (.slice none 0 0) rfl
            rw [e10.out]
            exact ret_vt rfl rfl rfl rfl r10 (fam_bad HX2 HK0 (HKW.out.mono (fun _ _ h => h.elim)) (HK9.out.mono (fun _ _ h => h.elim)) k10 HL0 ⟨bb, rfl, he1⟩)
          | ok t1 q =>
            have HX2 := HU8.out (.ok (V.tex t1) q) HNONE.out (Lib.hid (by rw [ht]; rfl))
            have hT := HRD.out w2 HKW.out
            rw [ht] at hT
            dsimp only at hT
            go_wp2_with (go_at_call 39; go_must (refine hT.mono ?_); rintro e w9 ⟨rfl, hk9, hr9⟩; have HK9 := Lib.hid hk9; have HR9 := Lib.hid hr9; clear hk9 hr9; obtain ⟨v0, v1, v2, v3, v4, v5, v6, v7, ⟨c0, c1, c2, c3, c4, c5, c6, c7⟩, f0, f1, f2, f3, f4, f5, f6, f7⟩ := eight (HK9.out.there (HT0.out.keep' HKW.out) (fun h => by have := HBB.out; have := HL0.out; omega)))
            have HTH := HK9.out.there (HT0.out.keep' HKW.out) (fun h => by have := HBB.out; have := HL0.out; omega)
            obtain ⟨w10, e10, r10, k10⟩ := put8 HTH ⟨5, 0, false, none, 0, 0, 0, 0, t1, none, 0, 0⟩ (.int .i8 5) (.int .u64 0) (.bool false) (.slice none 0 0) (.int .u64 0) (.int .i8 0) (.string t1) (.slice none 0 0) rfl
            rw [e10.out]
            have hL := HL0.out
            have hBB := HBB.out
            refine ret_vt rfl rfl rfl rfl r10 ?_
            rw [HX2]
            exact ⟨(((HK0.out.then_ HKW.out).mono (fun _ _ h => h.elim)).then_ HK9.out).trans k10 (fun k h1 h2 => by omega), ⟨_, HR9.out.keep k10 (fun h => by omega)⟩, _, rfl, Tr.flat _ _ _ _ _ _ _ _⟩
        | some y =>
          have hy : y ≤ E - i := by have := firstN_le HY.out; rw [List.length_drop, HLT.out] at this; exact this
          have i7 : IntKind.i64.wrap ((p : Int) + (i : Int)) = (p : Int) + (i : Int) := by have := HS.out; have := HEL.out; have := HPS.out; rw [IntWalk.i64_left, IntWalk.wrap64_in _ ⟨by omega, by omega⟩]
          have i8 : IntKind.i64.wrap ((p : Int) + (i : Int) + (y : Int)) = (p : Int) + (i : Int) + (y : Int) := by have := HS.out; have := HEL.out; have := HPS.out; rw [IntWalk.i64_left, IntWalk.wrap64_in _ ⟨by omega, by omega⟩]
          have HX2 : Hid (X = .bad 3 (p + i + y)) := by unfold Hid; rw [← HX.out, HBT.out, ← HSC.out, HFN.out]; simp only [Option.map_some, R.bind]; congr 1; omega
          simp only [WithinE] at hG
          go_wp2_with (first | (go_at_call 93; go_must (refine (hF _).mono ?_); rintro e w1 ⟨rfl, rfl⟩) | (go_at_call 94; go_must (refine (hG _).mono ?_); rintro e w2 ⟨rfl, hk2⟩; have h1 := hk2.cell h1 (fun h => h); have HKW : Hid (Keep nob w0 w2) := Lib.hid (HK.out.then_ hk2); clear hk2) | (go_at_call 16; go_must (refine (bad_ok (p + i + y) B sa _ ((HG.out.keep HK0.out (fun _ h => h.elim)).keep HKW.out (fun _ h => h.elim))).mono ?_); rintro e w9 ⟨⟨ev, rfl, he⟩, hk9⟩; have HK9 := Lib.hid hk9; clear hk9; obtain ⟨bb, rfl, he1⟩ := he; obtain ⟨v0, v1, v2, v3, v4, v5, v6, v7, ⟨c0, c1, c2, c3, c4, c5, c6, c7⟩, f0, f1, f2, f3, f4, f5, f6, f7⟩ := eight ((HT0.out.keep' HKW.out).keep' HK9.out)))
          obtain ⟨w10, e10, r10, k10⟩ := put8 ((HT0.out.keep' HKW.out).keep' HK9.out) Raw.zero (.int .i8 0) (.int .u64 0) (.bool false) (.slice none 0 0) (.int .u64 0) (.int .i8 0) (.string ⟨#[]⟩) (.slice none 0 0) rfl
          rw [e10.out]
          exact ret_vt rfl rfl rfl rfl r10 (fam_bad HX2 HK0 (HKW.out.mono (fun _ _ h => h.elim)) (HK9.out.mono (fun _ _ h => h.elim)) k10 HL0 ⟨bb, rfl, he1⟩)
    · have hlt : ¬ (i : Int) < (t.size : Int) := by rw [HTS.out]; omega
      have HNONE : Hid (ScanAt (bl t) n i = none) := Lib.hid (scan_at_end (by rw [HLT.out]; omega))
      have HKW := HK
      cases ht : takeR s p n with
      | bad c q =>
        have HX2 := Lib.hid (HU8.out (.bad c q) HNONE.out (Lib.hid (by rw [ht]; rfl)))
        have hT := HRD.out wr HKW.out
        rw [ht] at hT
        dsimp only at hT
        go_wp2_with (go_at_call 39; go_must (refine hT.mono ?_); rintro e w9 ⟨ev, rfl, hk9, he⟩; have HK9 := Lib.hid hk9; clear hk9; obtain ⟨bb, rfl, he1⟩ := he; obtain ⟨v0, v1, v2, v3, v4, v5, v6, v7, ⟨c0, c1, c2, c3, c4, c5, c6, c7⟩, f0, f1, f2, f3, f4, f5, f6, f7⟩ := eight ((HT0.out.keep' HKW.out).keep' HK9.out))
        obtain ⟨w10, e10, r10, k10⟩ := put8 ((HT0.out.keep' HKW.out).keep' HK9.out) Raw.zero (.int .i8 0) (.int .u64 0) (.bool false) (.slice none 0 0) (.int .u64 0) (.int .i8 0) (.string ⟨#[]⟩) (.slice none 0 0) rfl
        rw [e10.out]
        exact ret_vt rfl rfl rfl rfl r10 (fam_bad HX2 HK0 (HKW.out.mono (fun _ _ h => h.elim)) (HK9.out.mono (fun _ _ h => h.elim)) k10 HL0 ⟨bb, rfl, he1⟩)
      | ok t1 q =>
        have HX2 := HU8.out (.ok (V.tex t1) q) HNONE.out (Lib.hid (by rw [ht]; rfl))
        have hT := HRD.out wr HKW.out
        rw [ht] at hT
        dsimp only at hT
        go_wp2_with (go_at_call 39; go_must (refine hT.mono ?_); rintro e w9 ⟨rfl, hk9, hr9⟩; have HK9 := Lib.hid hk9; have HR9 := Lib.hid hr9; clear hk9 hr9; obtain ⟨v0, v1, v2, v3, v4, v5, v6, v7, ⟨c0, c1, c2, c3, c4, c5, c6, c7⟩, f0, f1, f2, f3, f4, f5, f6, f7⟩ := eight (HK9.out.there (HT0.out.keep' HKW.out) (fun h => by have := HBB.out; have := HL0.out; omega)))
        have HTH := HK9.out.there (HT0.out.keep' HKW.out) (fun h => by have := HBB.out; have := HL0.out; omega)
        obtain ⟨w10, e10, r10, k10⟩ := put8 HTH ⟨5, 0, false, none, 0, 0, 0, 0, t1, none, 0, 0⟩ (.int .i8 5) (.int .u64 0) (.bool false) (.slice none 0 0) (.int .u64 0) (.int .i8 0) (.string t1) (.slice none 0 0) rfl
        rw [e10.out]
        have hL := HL0.out
        have hBB := HBB.out
        refine ret_vt rfl rfl rfl rfl r10 ?_
        rw [HX2]
        exact ⟨(((HK0.out.then_ HKW.out).mono (fun _ _ h => h.elim)).then_ HK9.out).trans k10 (fun k h1 h2 => by omega), ⟨_, HR9.out.keep k10 (fun h => by omega)⟩, _, rfl, Tr.flat _ _ _ _ _ _ _ _⟩
end Go.Proofs.YtiemkfibpfndaaaGreatDoor

/- packread.pick: the family of a first byte. -/
namespace Go.Proofs.YtiemkfibpfndaaaGreatDoor
open Go.RowKit

theorem then_exit {K : Act → World → Prop} {Q : Exit → Act → World → Prop} {l : Nat} {a : Act} {w : World} (h : Q (.exit l) a w) : Exit.then K Q (.exit l) a w := h
theorem in_eq {Q : Exit → Act → World → Prop} {l : Nat} {a : Act} {w : World} (h : Q .normal a w) : Exit.inBlock l Q (.exit l) a w := by
  simp only [Exit.inBlock, if_true]
  exact h
theorem in_ne {Q : Exit → Act → World → Prop} {l m : Nat} {a : Act} {w : World} (hn : l ≠ m) (h : Q (.exit m) a w) : Exit.inBlock l Q (.exit m) a w := by
  simp only [Exit.inBlock, if_neg hn.symm]
  exact h
theorem then_nl {K : Act → World → Prop} {Q : Exit → Act → World → Prop} {a : Act} {w : World} (h : K a w) : Exit.then K Q .normal a w := h
theorem in_nl {Q : Exit → Act → World → Prop} {l : Nat} {a : Act} {w : World} (h : Q .normal a w) : Exit.inBlock l Q .normal a w := h
theorem then_rt {K : Act → World → Prop} {Q : Exit → Act → World → Prop} {a : Act} {w : World} (h : Q .ret a w) : Exit.then K Q .ret a w := h
theorem in_rt {Q : Exit → Act → World → Prop} {l : Nat} {a : Act} {w : World} (h : Q .ret a w) : Exit.inBlock l Q .ret a w := h

/-- the methods -/
def famFn : Fam → Nat
  | .whole => 62 | .pairs => 63 | .list => 64 | .text => 65 | .below => 66 | .word => 67 | .bytes => 68 | .ext => 69 | .single => 70 | .double => 71 | .signed => 72
def famV (b : Nat) (f : Fam) : Value := .func (Fn.func (famFn f)) #[.pointer (some ⟨b, 0, none⟩)] #[]
def PickPost (b : Nat) (w : World) (x : Option (Fam × Nat × Nat)) (e : Ending) (w' : World) : Prop := Keep nob w w' ∧ match x with
  | some (f, n, k) => e = .returned (.tuple #[.agg #[famV b f, .int .u64 (n : Int), .int .i64 (k : Int)], .bool true])
  | none => e = .returned (.tuple #[.agg #[.nilFunc, .int .u64 0, .int .i64 0], .bool false])
theorem load_fam {w : World} {b : Nat} {v0 v1 v2 : Value} (h0 : w.cell? ⟨b, 0, none⟩ = some v0) (h1 : w.cell? ⟨b, 1, none⟩ = some v1) (h2 : w.cell? ⟨b, 2, none⟩ = some v2) : (loadVar 111 ⟨b, 0, none⟩).run Tryz.prog w = .ok (.agg #[v0, v1, v2]) w := by
  go_simp
theorem ret_fam {fn : Func} {p u : Tmp} {R : Ending → World → Prop} {a : Act} {w : World} {b : Nat} {v0 v1 v2 v : Value} (h : fn.results = #[.cell p 111, .tmp u]) (hp : a.tmps.getD p undef = .pointer (some ⟨b, 0, none⟩)) (hv : a.tmps.getD u undef = v) (hd : a.defers = [])
    (h0 : w.cell? ⟨b, 0, none⟩ = some v0) (h1 : w.cell? ⟨b, 1, none⟩ = some v1) (h2 : w.cell? ⟨b, 2, none⟩ = some v2) (hR : R (.returned (.tuple #[.agg #[v0, v1, v2], v])) w) : bodyPost Tryz.prog fn R .ret a w := by
  refine bodyPost_ret ((results_cell_tmp h _ _ _).trans ?_) hd hR
  have hl := load_fam h0 h1 h2
  rw [hp, hv]
  simp [asAddr, hl]
theorem new1 (w : World) (v0 v1 v2 : Value) (T : TypeId) : (w.alloc (.cells #[v0, v1, v2] T)).cell? ⟨w.heap.size, 0, none⟩ = some v0 ∧ (w.alloc (.cells #[v0, v1, v2] T)).cell? ⟨w.heap.size, 1, none⟩ = some v1 ∧ (w.alloc (.cells #[v0, v1, v2] T)).cell? ⟨w.heap.size, 2, none⟩ = some v2 := by simp
theorem new2 (w : World) (v0 v1 v2 : Value) (T : TypeId) (o : Obj) : ((w.alloc (.cells #[v0, v1, v2] T)).alloc o).cell? ⟨w.heap.size, 0, none⟩ = some v0 ∧ ((w.alloc (.cells #[v0, v1, v2] T)).alloc o).cell? ⟨w.heap.size, 1, none⟩ = some v1 ∧ ((w.alloc (.cells #[v0, v1, v2] T)).alloc o).cell? ⟨w.heap.size, 2, none⟩ = some v2 := by simp
set_option maxRecDepth 100000 in
theorem pick_a (b c : Nat) (hc : c < 128) (w : World) : Calls Tryz.prog 40 #[.pointer (some ⟨b, 0, none⟩), .int .u8 (c : Int)] w (PickPost b w (some (.whole, c, 0))) := by
  have h1 : (c : Int) < 128 := by omega
  go_enter Tryz.func40, Tryz.ntmps40
  go_upto_region 2 with (first | (with_reducible refine then_nl ?_) | (with_reducible refine in_nl ?_) | (with_reducible refine then_rt ?_) | (with_reducible refine in_rt ?_) | (with_reducible refine then_exit ?_) | (with_reducible refine in_eq ?_) | (with_reducible refine in_ne (by decide) ?_))
  repeat go_step
  exact ret_fam rfl rfl rfl rfl (new1 _ _ _ _ _).1 (new1 _ _ _ _ _).2.1 (new1 _ _ _ _ _).2.2 ⟨(Keep.refl _ _).alloc _, rfl⟩
set_option maxRecDepth 100000 in
theorem pick_b (b c : Nat) (h0 : 128 ≤ c) (hc : c < 144) (w : World) : Calls Tryz.prog 40 #[.pointer (some ⟨b, 0, none⟩), .int .u8 (c : Int)] w (PickPost b w (some (.pairs, c % 16, 0))) := by
  have n128 : ¬ (c : Int) < 128 := by omega
  have h2 : (c : Int) < 144 := by omega
  have h9 : bits .and .u8 (c : Int) 15 = ((c % 16 : Nat) : Int) := by have hm : bits .and .u8 (c : Int) 15 = (c : Int) % 16 := bits_mask .u8 8 (by decide) wraps_u8 4 (by decide) (c : Int) (by omega) (by omega); rw [hm]; omega
  go_enter Tryz.func40, Tryz.ntmps40
  go_upto_region 4 with (first | (with_reducible refine then_nl ?_) | (with_reducible refine in_nl ?_) | (with_reducible refine then_rt ?_) | (with_reducible refine in_rt ?_) | (with_reducible refine then_exit ?_) | (with_reducible refine in_eq ?_) | (with_reducible refine in_ne (by decide) ?_))
  repeat go_step
  exact ret_fam rfl rfl rfl rfl (new1 _ _ _ _ _).1 (new1 _ _ _ _ _).2.1 (new1 _ _ _ _ _).2.2 ⟨(Keep.refl _ _).alloc _, rfl⟩
set_option maxRecDepth 100000 in
theorem pick_c (b c : Nat) (h0 : 144 ≤ c) (hc : c < 160) (w : World) : Calls Tryz.prog 40 #[.pointer (some ⟨b, 0, none⟩), .int .u8 (c : Int)] w (PickPost b w (some (.list, c % 16, 0))) := by
  have n128 : ¬ (c : Int) < 128 := by omega
  have n144 : ¬ (c : Int) < 144 := by omega
  have h2 : (c : Int) < 160 := by omega
  have h9 : bits .and .u8 (c : Int) 15 = ((c % 16 : Nat) : Int) := by have hm : bits .and .u8 (c : Int) 15 = (c : Int) % 16 := bits_mask .u8 8 (by decide) wraps_u8 4 (by decide) (c : Int) (by omega) (by omega); rw [hm]; omega
  go_enter Tryz.func40, Tryz.ntmps40
  go_upto_region 6 with (first | (with_reducible refine then_nl ?_) | (with_reducible refine in_nl ?_) | (with_reducible refine then_rt ?_) | (with_reducible refine in_rt ?_) | (with_reducible refine then_exit ?_) | (with_reducible refine in_eq ?_) | (with_reducible refine in_ne (by decide) ?_))
  repeat go_step
  exact ret_fam rfl rfl rfl rfl (new1 _ _ _ _ _).1 (new1 _ _ _ _ _).2.1 (new1 _ _ _ _ _).2.2 ⟨(Keep.refl _ _).alloc _, rfl⟩
set_option maxRecDepth 100000 in
theorem pick_d (b c : Nat) (h0 : 160 ≤ c) (hc : c < 192) (w : World) : Calls Tryz.prog 40 #[.pointer (some ⟨b, 0, none⟩), .int .u8 (c : Int)] w (PickPost b w (some (.text, c % 32, 0))) := by
  have n128 : ¬ (c : Int) < 128 := by omega
  have n144 : ¬ (c : Int) < 144 := by omega
  have n160 : ¬ (c : Int) < 160 := by omega
  have h2 : (c : Int) < 192 := by omega
  have h9 : bits .and .u8 (c : Int) 31 = ((c % 32 : Nat) : Int) := by have hm : bits .and .u8 (c : Int) 31 = (c : Int) % 32 := bits_mask .u8 8 (by decide) wraps_u8 5 (by decide) (c : Int) (by omega) (by omega); rw [hm]; omega
  go_enter Tryz.func40, Tryz.ntmps40
  go_upto_region 8 with (first | (with_reducible refine then_nl ?_) | (with_reducible refine in_nl ?_) | (with_reducible refine then_rt ?_) | (with_reducible refine in_rt ?_) | (with_reducible refine then_exit ?_) | (with_reducible refine in_eq ?_) | (with_reducible refine in_ne (by decide) ?_))
  repeat go_step
  exact ret_fam rfl rfl rfl rfl (new1 _ _ _ _ _).1 (new1 _ _ _ _ _).2.1 (new1 _ _ _ _ _).2.2 ⟨(Keep.refl _ _).alloc _, rfl⟩
set_option maxRecDepth 100000 in
theorem pick_e (b c : Nat) (h0 : 224 ≤ c) (hc : c < 256) (w : World) : Calls Tryz.prog 40 #[.pointer (some ⟨b, 0, none⟩), .int .u8 (c : Int)] w (PickPost b w (some (.below, 256 - c, 0))) := by
  have n128 : ¬ (c : Int) < 128 := by omega
  have n144 : ¬ (c : Int) < 144 := by omega
  have n160 : ¬ (c : Int) < 160 := by omega
  have n192 : ¬ (c : Int) < 192 := by omega
  have h2 : (c : Int) ≥ 224 := by omega
  have i1 : IntKind.i8.wrap (c : Int) = (c : Int) - 256 := by rw [wrap_i8 c hc, if_neg (by omega)]
  have i2 : IntKind.i64.wrap ((c : Int) - 256) = (c : Int) - 256 := by rw [IntWalk.i64_left, IntWalk.wrap64_in _ ⟨by omega, by omega⟩]
  have i3 : IntKind.i64.wrap (-((c : Int) - 256)) = ((256 - c : Nat) : Int) := by rw [IntWalk.i64_left, IntWalk.wrap64_in _ ⟨by omega, by omega⟩]; omega
  have i4 : IntKind.u64.wrap ((256 - c : Nat) : Int) = ((256 - c : Nat) : Int) := by rw [IntKind.wrap_u64]; omega
  go_enter Tryz.func40, Tryz.ntmps40
  go_upto_region 10 with (first | (with_reducible refine then_nl ?_) | (with_reducible refine in_nl ?_) | (with_reducible refine then_rt ?_) | (with_reducible refine in_rt ?_) | (with_reducible refine then_exit ?_) | (with_reducible refine in_eq ?_) | (with_reducible refine in_ne (by decide) ?_))
  repeat go_step
  exact ret_fam rfl rfl rfl rfl (new1 _ _ _ _ _).1 (new1 _ _ _ _ _).2.1 (new1 _ _ _ _ _).2.2 ⟨(Keep.refl _ _).alloc _, rfl⟩
end Go.Proofs.YtiemkfibpfndaaaGreatDoor

/- packread.pick: the family of a first byte. -/
namespace Go.Proofs.YtiemkfibpfndaaaGreatDoor
open Go.RowKit
set_option maxRecDepth 100000 in
theorem pick_192 (b : Nat) (w : World) : Calls Tryz.prog 40 #[.pointer (some ⟨b, 0, none⟩), .int .u8 192] w (PickPost b w (some (.word, 0, 0))) := by
  go_enter Tryz.func40, Tryz.ntmps40
  go_upto_region 44 with (first | (with_reducible refine then_nl ?_) | (with_reducible refine in_nl ?_) | (with_reducible refine then_rt ?_) | (with_reducible refine in_rt ?_) | (with_reducible refine then_exit ?_) | (with_reducible refine in_eq ?_) | (with_reducible refine in_ne (by decide) ?_))
  repeat go_step
  exact ret_fam rfl rfl rfl rfl (new2 _ _ _ _ _ _).1 (new2 _ _ _ _ _ _).2.1 (new2 _ _ _ _ _ _).2.2 ⟨((Keep.refl _ _).alloc _).alloc _, rfl⟩
set_option maxRecDepth 100000 in
theorem pick_193 (b : Nat) (w : World) : Calls Tryz.prog 40 #[.pointer (some ⟨b, 0, none⟩), .int .u8 193] w (PickPost b w none) := by
  go_enter Tryz.func40, Tryz.ntmps40
  go_upto_region 62 with (first | (with_reducible refine then_nl ?_) | (with_reducible refine in_nl ?_) | (with_reducible refine then_rt ?_) | (with_reducible refine in_rt ?_) | (with_reducible refine then_exit ?_) | (with_reducible refine in_eq ?_) | (with_reducible refine in_ne (by decide) ?_))
  repeat go_step
  exact ret_fam rfl rfl rfl rfl (new2 _ _ _ _ _ _).1 (new2 _ _ _ _ _ _).2.1 (new2 _ _ _ _ _ _).2.2 ⟨((Keep.refl _ _).alloc _).alloc _, rfl⟩
set_option maxRecDepth 100000 in
theorem pick_194 (b : Nat) (w : World) : Calls Tryz.prog 40 #[.pointer (some ⟨b, 0, none⟩), .int .u8 194] w (PickPost b w (some (.word, 1, 0))) := by
  go_enter Tryz.func40, Tryz.ntmps40
  go_upto_region 45 with (first | (with_reducible refine then_nl ?_) | (with_reducible refine in_nl ?_) | (with_reducible refine then_rt ?_) | (with_reducible refine in_rt ?_) | (with_reducible refine then_exit ?_) | (with_reducible refine in_eq ?_) | (with_reducible refine in_ne (by decide) ?_))
  repeat go_step
  exact ret_fam rfl rfl rfl rfl (new2 _ _ _ _ _ _).1 (new2 _ _ _ _ _ _).2.1 (new2 _ _ _ _ _ _).2.2 ⟨((Keep.refl _ _).alloc _).alloc _, rfl⟩
set_option maxRecDepth 100000 in
theorem pick_195 (b : Nat) (w : World) : Calls Tryz.prog 40 #[.pointer (some ⟨b, 0, none⟩), .int .u8 195] w (PickPost b w (some (.word, 2, 0))) := by
  go_enter Tryz.func40, Tryz.ntmps40
  go_upto_region 45 with (first | (with_reducible refine then_nl ?_) | (with_reducible refine in_nl ?_) | (with_reducible refine then_rt ?_) | (with_reducible refine in_rt ?_) | (with_reducible refine then_exit ?_) | (with_reducible refine in_eq ?_) | (with_reducible refine in_ne (by decide) ?_))
  repeat go_step
  exact ret_fam rfl rfl rfl rfl (new2 _ _ _ _ _ _).1 (new2 _ _ _ _ _ _).2.1 (new2 _ _ _ _ _ _).2.2 ⟨((Keep.refl _ _).alloc _).alloc _, rfl⟩
set_option maxRecDepth 100000 in
theorem pick_196 (b : Nat) (w : World) : Calls Tryz.prog 40 #[.pointer (some ⟨b, 0, none⟩), .int .u8 196] w (PickPost b w (some (.bytes, 0, 1))) := by
  go_enter Tryz.func40, Tryz.ntmps40
  go_upto_region 63 with (first | (with_reducible refine then_nl ?_) | (with_reducible refine in_nl ?_) | (with_reducible refine then_rt ?_) | (with_reducible refine in_rt ?_) | (with_reducible refine then_exit ?_) | (with_reducible refine in_eq ?_) | (with_reducible refine in_ne (by decide) ?_))
  repeat go_step
  exact ret_fam rfl rfl rfl rfl (new2 _ _ _ _ _ _).1 (new2 _ _ _ _ _ _).2.1 (new2 _ _ _ _ _ _).2.2 ⟨((Keep.refl _ _).alloc _).alloc _, rfl⟩
set_option maxRecDepth 100000 in
theorem pick_197 (b : Nat) (w : World) : Calls Tryz.prog 40 #[.pointer (some ⟨b, 0, none⟩), .int .u8 197] w (PickPost b w (some (.bytes, 0, 2))) := by
  go_enter Tryz.func40, Tryz.ntmps40
  go_upto_region 63 with (first | (with_reducible refine then_nl ?_) | (with_reducible refine in_nl ?_) | (with_reducible refine then_rt ?_) | (with_reducible refine in_rt ?_) | (with_reducible refine then_exit ?_) | (with_reducible refine in_eq ?_) | (with_reducible refine in_ne (by decide) ?_))
  repeat go_step
  exact ret_fam rfl rfl rfl rfl (new2 _ _ _ _ _ _).1 (new2 _ _ _ _ _ _).2.1 (new2 _ _ _ _ _ _).2.2 ⟨((Keep.refl _ _).alloc _).alloc _, rfl⟩
set_option maxRecDepth 100000 in
theorem pick_198 (b : Nat) (w : World) : Calls Tryz.prog 40 #[.pointer (some ⟨b, 0, none⟩), .int .u8 198] w (PickPost b w (some (.bytes, 0, 4))) := by
  go_enter Tryz.func40, Tryz.ntmps40
  go_upto_region 63 with (first | (with_reducible refine then_nl ?_) | (with_reducible refine in_nl ?_) | (with_reducible refine then_rt ?_) | (with_reducible refine in_rt ?_) | (with_reducible refine then_exit ?_) | (with_reducible refine in_eq ?_) | (with_reducible refine in_ne (by decide) ?_))
  repeat go_step
  exact ret_fam rfl rfl rfl rfl (new2 _ _ _ _ _ _).1 (new2 _ _ _ _ _ _).2.1 (new2 _ _ _ _ _ _).2.2 ⟨((Keep.refl _ _).alloc _).alloc _, rfl⟩
set_option maxRecDepth 100000 in
theorem pick_199 (b : Nat) (w : World) : Calls Tryz.prog 40 #[.pointer (some ⟨b, 0, none⟩), .int .u8 199] w (PickPost b w (some (.ext, 0, 1))) := by
  go_enter Tryz.func40, Tryz.ntmps40
  go_upto_region 63 with (first | (with_reducible refine then_nl ?_) | (with_reducible refine in_nl ?_) | (with_reducible refine then_rt ?_) | (with_reducible refine in_rt ?_) | (with_reducible refine then_exit ?_) | (with_reducible refine in_eq ?_) | (with_reducible refine in_ne (by decide) ?_))
  repeat go_step
  exact ret_fam rfl rfl rfl rfl (new2 _ _ _ _ _ _).1 (new2 _ _ _ _ _ _).2.1 (new2 _ _ _ _ _ _).2.2 ⟨((Keep.refl _ _).alloc _).alloc _, rfl⟩
set_option maxRecDepth 100000 in
theorem pick_200 (b : Nat) (w : World) : Calls Tryz.prog 40 #[.pointer (some ⟨b, 0, none⟩), .int .u8 200] w (PickPost b w (some (.ext, 0, 2))) := by
  go_enter Tryz.func40, Tryz.ntmps40
  go_upto_region 63 with (first | (with_reducible refine then_nl ?_) | (with_reducible refine in_nl ?_) | (with_reducible refine then_rt ?_) | (with_reducible refine in_rt ?_) | (with_reducible refine then_exit ?_) | (with_reducible refine in_eq ?_) | (with_reducible refine in_ne (by decide) ?_))
  repeat go_step
  exact ret_fam rfl rfl rfl rfl (new2 _ _ _ _ _ _).1 (new2 _ _ _ _ _ _).2.1 (new2 _ _ _ _ _ _).2.2 ⟨((Keep.refl _ _).alloc _).alloc _, rfl⟩
set_option maxRecDepth 100000 in
theorem pick_201 (b : Nat) (w : World) : Calls Tryz.prog 40 #[.pointer (some ⟨b, 0, none⟩), .int .u8 201] w (PickPost b w (some (.ext, 0, 4))) := by
  go_enter Tryz.func40, Tryz.ntmps40
  go_upto_region 63 with (first | (with_reducible refine then_nl ?_) | (with_reducible refine in_nl ?_) | (with_reducible refine then_rt ?_) | (with_reducible refine in_rt ?_) | (with_reducible refine then_exit ?_) | (with_reducible refine in_eq ?_) | (with_reducible refine in_ne (by decide) ?_))
  repeat go_step
  exact ret_fam rfl rfl rfl rfl (new2 _ _ _ _ _ _).1 (new2 _ _ _ _ _ _).2.1 (new2 _ _ _ _ _ _).2.2 ⟨((Keep.refl _ _).alloc _).alloc _, rfl⟩
set_option maxRecDepth 100000 in
theorem pick_202 (b : Nat) (w : World) : Calls Tryz.prog 40 #[.pointer (some ⟨b, 0, none⟩), .int .u8 202] w (PickPost b w (some (.single, 0, 4))) := by
  go_enter Tryz.func40, Tryz.ntmps40
  go_upto_region 52 with (first | (with_reducible refine then_nl ?_) | (with_reducible refine in_nl ?_) | (with_reducible refine then_rt ?_) | (with_reducible refine in_rt ?_) | (with_reducible refine then_exit ?_) | (with_reducible refine in_eq ?_) | (with_reducible refine in_ne (by decide) ?_))
  repeat go_step
  exact ret_fam rfl rfl rfl rfl (new2 _ _ _ _ _ _).1 (new2 _ _ _ _ _ _).2.1 (new2 _ _ _ _ _ _).2.2 ⟨((Keep.refl _ _).alloc _).alloc _, rfl⟩
end Go.Proofs.YtiemkfibpfndaaaGreatDoor

/- packread.pick: the family of a first byte. -/
namespace Go.Proofs.YtiemkfibpfndaaaGreatDoor
open Go.RowKit
set_option maxRecDepth 100000 in
theorem pick_203 (b : Nat) (w : World) : Calls Tryz.prog 40 #[.pointer (some ⟨b, 0, none⟩), .int .u8 203] w (PickPost b w (some (.double, 0, 8))) := by
  go_enter Tryz.func40, Tryz.ntmps40
  go_upto_region 53 with (first | (with_reducible refine then_nl ?_) | (with_reducible refine in_nl ?_) | (with_reducible refine then_rt ?_) | (with_reducible refine in_rt ?_) | (with_reducible refine then_exit ?_) | (with_reducible refine in_eq ?_) | (with_reducible refine in_ne (by decide) ?_))
  repeat go_step
  exact ret_fam rfl rfl rfl rfl (new2 _ _ _ _ _ _).1 (new2 _ _ _ _ _ _).2.1 (new2 _ _ _ _ _ _).2.2 ⟨((Keep.refl _ _).alloc _).alloc _, rfl⟩
set_option maxRecDepth 100000 in
theorem pick_204 (b : Nat) (w : World) : Calls Tryz.prog 40 #[.pointer (some ⟨b, 0, none⟩), .int .u8 204] w (PickPost b w (some (.whole, 0, 1))) := by
  go_enter Tryz.func40, Tryz.ntmps40
  go_upto_region 54 with (first | (with_reducible refine then_nl ?_) | (with_reducible refine in_nl ?_) | (with_reducible refine then_rt ?_) | (with_reducible refine in_rt ?_) | (with_reducible refine then_exit ?_) | (with_reducible refine in_eq ?_) | (with_reducible refine in_ne (by decide) ?_))
  repeat go_step
  exact ret_fam rfl rfl rfl rfl (new2 _ _ _ _ _ _).1 (new2 _ _ _ _ _ _).2.1 (new2 _ _ _ _ _ _).2.2 ⟨((Keep.refl _ _).alloc _).alloc _, rfl⟩
set_option maxRecDepth 100000 in
theorem pick_205 (b : Nat) (w : World) : Calls Tryz.prog 40 #[.pointer (some ⟨b, 0, none⟩), .int .u8 205] w (PickPost b w (some (.whole, 0, 2))) := by
  go_enter Tryz.func40, Tryz.ntmps40
  go_upto_region 54 with (first | (with_reducible refine then_nl ?_) | (with_reducible refine in_nl ?_) | (with_reducible refine then_rt ?_) | (with_reducible refine in_rt ?_) | (with_reducible refine then_exit ?_) | (with_reducible refine in_eq ?_) | (with_reducible refine in_ne (by decide) ?_))
  repeat go_step
  exact ret_fam rfl rfl rfl rfl (new2 _ _ _ _ _ _).1 (new2 _ _ _ _ _ _).2.1 (new2 _ _ _ _ _ _).2.2 ⟨((Keep.refl _ _).alloc _).alloc _, rfl⟩
set_option maxRecDepth 100000 in
theorem pick_206 (b : Nat) (w : World) : Calls Tryz.prog 40 #[.pointer (some ⟨b, 0, none⟩), .int .u8 206] w (PickPost b w (some (.whole, 0, 4))) := by
  go_enter Tryz.func40, Tryz.ntmps40
  go_upto_region 54 with (first | (with_reducible refine then_nl ?_) | (with_reducible refine in_nl ?_) | (with_reducible refine then_rt ?_) | (with_reducible refine in_rt ?_) | (with_reducible refine then_exit ?_) | (with_reducible refine in_eq ?_) | (with_reducible refine in_ne (by decide) ?_))
  repeat go_step
  exact ret_fam rfl rfl rfl rfl (new2 _ _ _ _ _ _).1 (new2 _ _ _ _ _ _).2.1 (new2 _ _ _ _ _ _).2.2 ⟨((Keep.refl _ _).alloc _).alloc _, rfl⟩
set_option maxRecDepth 100000 in
theorem pick_207 (b : Nat) (w : World) : Calls Tryz.prog 40 #[.pointer (some ⟨b, 0, none⟩), .int .u8 207] w (PickPost b w (some (.whole, 0, 8))) := by
  go_enter Tryz.func40, Tryz.ntmps40
  go_upto_region 54 with (first | (with_reducible refine then_nl ?_) | (with_reducible refine in_nl ?_) | (with_reducible refine then_rt ?_) | (with_reducible refine in_rt ?_) | (with_reducible refine then_exit ?_) | (with_reducible refine in_eq ?_) | (with_reducible refine in_ne (by decide) ?_))
  repeat go_step
  exact ret_fam rfl rfl rfl rfl (new2 _ _ _ _ _ _).1 (new2 _ _ _ _ _ _).2.1 (new2 _ _ _ _ _ _).2.2 ⟨((Keep.refl _ _).alloc _).alloc _, rfl⟩
set_option maxRecDepth 100000 in
theorem pick_208 (b : Nat) (w : World) : Calls Tryz.prog 40 #[.pointer (some ⟨b, 0, none⟩), .int .u8 208] w (PickPost b w (some (.signed, 1, 0))) := by
  go_enter Tryz.func40, Tryz.ntmps40
  go_upto_region 55 with (first | (with_reducible refine then_nl ?_) | (with_reducible refine in_nl ?_) | (with_reducible refine then_rt ?_) | (with_reducible refine in_rt ?_) | (with_reducible refine then_exit ?_) | (with_reducible refine in_eq ?_) | (with_reducible refine in_ne (by decide) ?_))
  repeat go_step
  exact ret_fam rfl rfl rfl rfl (new2 _ _ _ _ _ _).1 (new2 _ _ _ _ _ _).2.1 (new2 _ _ _ _ _ _).2.2 ⟨((Keep.refl _ _).alloc _).alloc _, rfl⟩
set_option maxRecDepth 100000 in
theorem pick_209 (b : Nat) (w : World) : Calls Tryz.prog 40 #[.pointer (some ⟨b, 0, none⟩), .int .u8 209] w (PickPost b w (some (.signed, 2, 0))) := by
  go_enter Tryz.func40, Tryz.ntmps40
  go_upto_region 55 with (first | (with_reducible refine then_nl ?_) | (with_reducible refine in_nl ?_) | (with_reducible refine then_rt ?_) | (with_reducible refine in_rt ?_) | (with_reducible refine then_exit ?_) | (with_reducible refine in_eq ?_) | (with_reducible refine in_ne (by decide) ?_))
  repeat go_step
  exact ret_fam rfl rfl rfl rfl (new2 _ _ _ _ _ _).1 (new2 _ _ _ _ _ _).2.1 (new2 _ _ _ _ _ _).2.2 ⟨((Keep.refl _ _).alloc _).alloc _, rfl⟩
set_option maxRecDepth 100000 in
theorem pick_210 (b : Nat) (w : World) : Calls Tryz.prog 40 #[.pointer (some ⟨b, 0, none⟩), .int .u8 210] w (PickPost b w (some (.signed, 4, 0))) := by
  go_enter Tryz.func40, Tryz.ntmps40
  go_upto_region 55 with (first | (with_reducible refine then_nl ?_) | (with_reducible refine in_nl ?_) | (with_reducible refine then_rt ?_) | (with_reducible refine in_rt ?_) | (with_reducible refine then_exit ?_) | (with_reducible refine in_eq ?_) | (with_reducible refine in_ne (by decide) ?_))
  repeat go_step
  exact ret_fam rfl rfl rfl rfl (new2 _ _ _ _ _ _).1 (new2 _ _ _ _ _ _).2.1 (new2 _ _ _ _ _ _).2.2 ⟨((Keep.refl _ _).alloc _).alloc _, rfl⟩
set_option maxRecDepth 100000 in
theorem pick_211 (b : Nat) (w : World) : Calls Tryz.prog 40 #[.pointer (some ⟨b, 0, none⟩), .int .u8 211] w (PickPost b w (some (.signed, 8, 0))) := by
  go_enter Tryz.func40, Tryz.ntmps40
  go_upto_region 55 with (first | (with_reducible refine then_nl ?_) | (with_reducible refine in_nl ?_) | (with_reducible refine then_rt ?_) | (with_reducible refine in_rt ?_) | (with_reducible refine then_exit ?_) | (with_reducible refine in_eq ?_) | (with_reducible refine in_ne (by decide) ?_))
  repeat go_step
  exact ret_fam rfl rfl rfl rfl (new2 _ _ _ _ _ _).1 (new2 _ _ _ _ _ _).2.1 (new2 _ _ _ _ _ _).2.2 ⟨((Keep.refl _ _).alloc _).alloc _, rfl⟩
set_option maxRecDepth 100000 in
theorem pick_212 (b : Nat) (w : World) : Calls Tryz.prog 40 #[.pointer (some ⟨b, 0, none⟩), .int .u8 212] w (PickPost b w (some (.ext, 1, 0))) := by
  go_enter Tryz.func40, Tryz.ntmps40
  go_upto_region 56 with (first | (with_reducible refine then_nl ?_) | (with_reducible refine in_nl ?_) | (with_reducible refine then_rt ?_) | (with_reducible refine in_rt ?_) | (with_reducible refine then_exit ?_) | (with_reducible refine in_eq ?_) | (with_reducible refine in_ne (by decide) ?_))
  repeat go_step
  exact ret_fam rfl rfl rfl rfl (new2 _ _ _ _ _ _).1 (new2 _ _ _ _ _ _).2.1 (new2 _ _ _ _ _ _).2.2 ⟨((Keep.refl _ _).alloc _).alloc _, rfl⟩
set_option maxRecDepth 100000 in
theorem pick_213 (b : Nat) (w : World) : Calls Tryz.prog 40 #[.pointer (some ⟨b, 0, none⟩), .int .u8 213] w (PickPost b w (some (.ext, 2, 0))) := by
  go_enter Tryz.func40, Tryz.ntmps40
  go_upto_region 56 with (first | (with_reducible refine then_nl ?_) | (with_reducible refine in_nl ?_) | (with_reducible refine then_rt ?_) | (with_reducible refine in_rt ?_) | (with_reducible refine then_exit ?_) | (with_reducible refine in_eq ?_) | (with_reducible refine in_ne (by decide) ?_))
  repeat go_step
  exact ret_fam rfl rfl rfl rfl (new2 _ _ _ _ _ _).1 (new2 _ _ _ _ _ _).2.1 (new2 _ _ _ _ _ _).2.2 ⟨((Keep.refl _ _).alloc _).alloc _, rfl⟩
end Go.Proofs.YtiemkfibpfndaaaGreatDoor
