/- typed.ToInts of what holds whole numbers: its function, the loop over the elements. -/
import Derived.ChangeMaps5
import Derived.ChangeSlices
import Derived.Test.YteekndchkgdccaaGreatDoorPa6
namespace Go.Proofs.YteekndchkgdccaaGreatDoor
open Go.RowKit

/-- an int64 -/
def I64 (z : Int) : Prop := -9223372036854775808 ≤ z ∧ z < 9223372036854775808
theorem rangeE_new (w : World) (e : Elm) (T : TypeId) : (w.alloc (.cells (EE.cells e).toArray T)).rangeAt w.heap.size 0 (EE.cells e) := range_alloc_new w _ T _ (fun j v hj => by simpa using hj)
set_option maxRecDepth 100000 in
theorem toints1_ok (z : Int) (hz : I64 z) (e : Elm) (D : Nat → Prop) (w : World) (ht : Tr w D e.r (intW z)) :
    Calls Tryz.prog 18 #[EE.val e] w fun E w' => E = .returned (.tuple #[.int .i64 z, .bool true]) ∧ Keep nob w w' := by
  have h0 := ht
  unfold intW V.int at h0
  obtain ⟨h1, -, h3, -, -, -, ⟨h4, h5, -⟩, -⟩ := h0
  have HRN := Lib.hid (rangeE_new w e 60)
  have HKA : Hid (Keep nob w (w.alloc (.cells (EE.cells e).toArray 60))) := Lib.hid ((Keep.refl _ _).alloc _)
  obtain ⟨x0, HX0⟩ : ∃ x0, Hid (w.alloc (.cells (EE.cells e).toArray 60) = x0) := ⟨_, Lib.hid rfl⟩
  obtain ⟨b0, HB0⟩ : ∃ b0, Hid (w.heap.size = b0) := ⟨_, Lib.hid rfl⟩
  rw [HX0.out, HB0.out] at HRN
  rw [HX0.out] at HKA
  have HC := Lib.hid (int64_of z hz.1 hz.2 e.r.mA e.r.mC x0 (h5.keep HKA.out (fun ⟨_, _, h⟩ => h)))
  unfold intV at HC
  rw [← h4, ← h3] at HC
  obtain ⟨⟨rk, rn, rneg, rA, rL, rC, rbits, rext, rtext, rkA, rkL, rkC⟩, ex, ew⟩ := e
  dsimp only at h1 HC
  subst h1
  simp only [EE, Int.cast_ofNat_Int]
  have HX : Hid (w.alloc (.cells #[.int .i8 3, .int .u64 (rn : Int), .bool rneg, .slice rA rL rC, .int .u64 (rbits : Int), .int .i8 rext, .string rtext, .slice rkA rkL rkC, .float .f64 ex, .bool ew] 60) = x0) := HX0
  obtain ⟨a0, a1, a2, a3, a4, a5, a6, a7, a8, a9⟩ := elm_val HRN.out
  simp only [Int.cast_ofNat_Int, Nat.zero_add] at a0 a1 a2 a3 a4 a5 a6 a7 a8 a9
  clear HX0 ht h3 h4 h5 hz
  go_enter Tryz.func18, Tryz.ntmps18
  go_upto_region 1 with (fail)
  rw [HX.out, HB0.out]
  go_wp2_with (go_at_call 19; go_must (refine HC.out.mono ?_); rintro E w1 ⟨rfl, hk1⟩; have HK1 := Lib.hid hk1; clear hk1)
  go_ret2
  exact ⟨rfl, HKA.out.then_ HK1.out⟩
end Go.Proofs.YteekndchkgdccaaGreatDoor

/- What a row hands in: a slice of int64, opened. -/
namespace Go.Proofs.YteekndchkgdccaaGreatDoor
open Go.ChangeShapes Go.WideShapes Go.ChangeAt Go.RowKit Go.Deep

section
variable {H : Type} {enc : TypeId × Value → H}
theorem bulk_lits (k : IntKind) : ∀ l : List Int, Rows.uptoBulkAll (lits k l : List (DataW H)) = l.length
  | [] => rfl
  | z :: l => by
    have h := bulk_lits k l
    unfold lits at h ⊢
    have h1 : Rows.uptoBulk (.lit (.int k z) : DataW H) = 1 := by simp [Rows.uptoBulk]
    rw [List.map_cons, Rows.uptoBulkAll, h, h1, List.length_cons, Nat.add_comm]
theorem cellsI64 : Tryz.prog.cellsOf 2 = 1 := by kernel_rfl
set_option maxRecDepth 100000 in
theorem open_i64s {W : World} {base : Nat} {v : Value} {d : DataW H} {ps : List MemPlace} (hval : Value.okWide Tryz.prog W .any base 22 v) (h : DataW.Trod enc Tryz.prog W 0 (fun _ => true) true 22 v d ps) :
    ∃ A c, ∃ xs : List Int, v = .slice A xs.length c ∧ Sl E64 W A c xs ∧ (∀ z ∈ xs, I64 z) ∧ xs.length ≤ Rows.uptoBulk d := by
  obtain ⟨A, len, cap, rfl⟩ := okWide_slice Tryz.underlying22 hval
  obtain ⟨n, hn⟩ := h
  rcases open_ints Tryz.underlying22 Tryz.underlying2 cellsI64 hn with ⟨e, rfl, rfl⟩ | ⟨a, len', cap', zs, e, _, hl, hc, hzl, hx, hcell, hwf⟩
  · simp only [Value.cells, List.cons.injEq, Value.slice.injEq, and_true] at e
    obtain ⟨rfl, rfl, rfl⟩ := e
    exact ⟨none, 0, [], rfl, Sl.nil_ E64 W none (by decide), fun _ h => (by cases h), Nat.zero_le _⟩
  · simp only [Value.cells, List.cons.injEq, Value.slice.injEq, and_true] at e
    obtain ⟨rfl, rfl, rfl⟩ := e
    simp only [Prod.mk.injEq] at hx
    obtain ⟨rfl, -⟩ := hx
    rw [if_pos rfl] at hzl
    have htl : (zs.take len).length = len := by rw [List.length_take]; omega
    refine ⟨some a, cap, zs.take len, by rw [htl], ⟨by rw [htl]; exact hl, by unfold maxLen at hc; omega, fun hne => ?_⟩, fun z hz => ?_, ?_⟩
    · have hpos : 0 < len := Nat.pos_of_ne_zero (fun e => by subst e; simp at hne)
      obtain ⟨b, o, e⟩ := a
      have he : e = none := by
        have := hcell 0 (by omega)
        cases e with
        | none => rfl
        | some z =>
          simp [World.cell?, Addr.add] at this
          split at this <;> simp at this
      subst he
      refine ⟨b, o, rfl, ?_⟩
      have : ∀ k, k ≤ len → W.rangeAt b o (E64.flat (zs.take k)) := by
        intro k
        induction k with
        | zero => intro _; exact range_nil _ _ _
        | succ k ih =>
          intro hk
          rw [List.take_succ_eq_append_getElem (by omega), El.flat_app, range_app, El.flat_len]
          refine ⟨ih (by omega), ?_⟩
          have g1 := hcell k (by omega)
          rw [add_plain] at g1
          intro j v hj
          simp only [List.length_take, El.flat_cons, El.flat_nil, List.append_nil, E64] at hj ⊢
          match j, hj with
          | 0, hj =>
            simp at hj
            subst hj
            have h2 : min k zs.length = k := Nat.min_eq_left (by omega)
            rw [List.getD_eq_getElem?_getD, List.getElem?_eq_getElem (by omega), Option.getD_some] at g1
            simpa [h2] using g1
      exact this len (Nat.le_refl _)
    · have h1 := hwf z (List.mem_of_mem_take hz)
      unfold I64
      have e1 : IntKind.i64.min = -9223372036854775808 := by decide
      have e2 : IntKind.i64.max = 9223372036854775807 := by decide
      simp [Lit.wf] at h1
      omega
    · rw [Rows.uptoBulk, bulk_lits, htl]
      omega
end
theorem bulk_bound {H : Type} {l : List (DataW H)} (hk : Rows.uptoSmall H l = true) : Rows.uptoBulkAll l ≤ 1048576 := of_decide_eq_true hk
end Go.Proofs.YteekndchkgdccaaGreatDoor

/- typed.all of int64, typed.ToInts, of what holds whole numbers. -/
namespace Go.Proofs.YteekndchkgdccaaGreatDoor
open Go.RowKit

theorem infoI64 : (Tryz.prog.info? 2).map (fun i => (i.zero, i.size, i.bytes)) = some (some (.int .i64 0), E64.sz, 8) := by kernel_rfl
/-- what ToInts answers -/
def IntsBack (w : World) (ls : List Int) (E : Ending) (w' : World) : Prop := Keep nob w w' ∧ ∃ A c, E = .returned (.tuple #[.slice A ls.length c, .nilIface]) ∧ Sl E64 w' A c ls ∧ ∀ a, A = some a → w.heap.size ≤ a.block
set_option maxRecDepth 100000 in
set_option maxHeartbeats 1000000 in
theorem all_ints (ls : List Int) (hls : ∀ z ∈ ls, I64 z) (hn9 : ls.length ≤ 1000000000) (r : Raw) (Do : Nat → Prop) (w : World)
    (hck : ∀ W, Keep nob w W → Calls Tryz.prog 12 #[ER.val r] W fun E w' => E = .returned .nilIface ∧ Keep nob W w')
    (hel : ∀ W, Keep nob w W → Calls Tryz.prog 21 #[ER.val r, .bool true] W (ElsPost W Do (ls.map intW))) :
    Calls Tryz.prog 17 #[ER.val r, .func (.func 18) #[] #[]] w (IntsBack w ls) := by
  have HCK := Lib.hid hck
  have HEL := Lib.hid hel
  have HLS := Lib.hid hls
  obtain ⟨n, HN⟩ : ∃ n, Hid (ls.length = n) := ⟨_, Lib.hid rfl⟩
  rw [HN.out] at hn9
  have HE1 : Hid (∀ args w, (callFunc 18 args).run Tryz.prog w = .ok (.enter 18 args) w) := Lib.hid (fun args w => by go_simp)
  have HRN := Lib.hid (range_new w r 35)
  have HKA : Hid (Keep nob w (w.alloc (.cells (ER.cells r).toArray 35))) := Lib.hid ((Keep.refl _ _).alloc _)
  obtain ⟨x0, HX0⟩ : ∃ x0, Hid (w.alloc (.cells (ER.cells r).toArray 35) = x0) := ⟨_, Lib.hid rfl⟩
  obtain ⟨b0, HB0⟩ : ∃ b0, Hid (w.heap.size = b0) := ⟨_, Lib.hid rfl⟩
  rw [HX0.out, HB0.out] at HRN
  rw [HX0.out] at HKA
  have HC0 := Lib.hid (HCK.out x0 HKA.out)
  obtain ⟨rk, rn, rneg, rA, rL, rC, rbits, rext, rtext, rkA, rkL, rkC⟩ := r
  simp only [ER] at HC0 HEL ⊢
  have HX : Hid (w.alloc (.cells #[.int .i8 (rk : Int), .int .u64 (rn : Int), .bool rneg, .slice rA rL rC, .int .u64 (rbits : Int), .int .i8 rext, .string rtext, .slice rkA rkL rkC] 35) = x0) := HX0
  obtain ⟨a0, a1, a2, a3, a4, a5, a6, a7⟩ := cells_val HRN.out
  dsimp only at a0 a1 a2 a3 a4 a5 a6 a7
  clear HX0 hck hel hls
  go_enter Tryz.func17, Tryz.ntmps17
  go_upto_region 1 with (fail)
  rw [HX.out, HB0.out]
  go_upto_region 4 with (go_at_call 12; go_must (refine HC0.out.mono ?_); rintro E w1 ⟨rfl, hk1⟩; have HK1 := Lib.hid hk1; clear hk1)
  have HK01 := Lib.hid (HKA.out.then_ HK1.out)
  have HR1 := Lib.hid (range_keep0 HK1.out HRN.out)
  clear a0 a1 a2 a3 a4 a5 a6 a7
  obtain ⟨a0, a1, a2, a3, a4, a5, a6, a7⟩ := cells_val HR1.out
  dsimp only at a0 a1 a2 a3 a4 a5 a6 a7
  have HE0 := Lib.hid (HEL.out w1 HK01.out)
  go_wp2_with (go_at_call 21; go_must (refine HE0.out.mono ?_); rintro E w2 ⟨hk2, A2, c2, es, rfl, hs2, hl2, he2⟩; rw [List.length_map, HN.out]; have HK2 := Lib.hid (HK01.out.then_ hk2); have HS2 := Lib.hid hs2; have HE2 := Lib.hid he2; clear hk2 hs2 hl2 he2)
  have HNE : Hid (es.length = n) := Lib.hid (by rw [HE2.out.len, List.length_map, HN.out])
  have hle := HS2.out.le
  have hcap := HS2.out.cap
  rw [HNE.out] at hle
  obtain ⟨m, HM⟩ : ∃ m, Hid (w2.heap.size = m) := ⟨_, Lib.hid rfl⟩
  have HMW : Hid (w.heap.size ≤ m) := Lib.hid (by rw [← HM.out]; exact HK2.out.size)
  go_loopw [9, 29] (fun u9 u29 wr => ∃ (i c : Nat) (A : Option Addr), i ≤ n ∧ u29 = .int .i64 (i : Int) ∧ u9 = .slice A i c ∧ Hid (Ow E64 wr A c (ls.take i)) ∧ Hid (∀ a, A = some a → m ≤ a.block) ∧ Hid (Keep nob w2 wr)) (fun _ u29 _ => n - (intOf u29).toNat)
  case atStart => exact ⟨0, 0, none, Nat.zero_le _, rfl, rfl, Lib.hid (Ow.nil_ E64 _ none), Lib.hid (fun _ h => by cases h), Lib.hid (Keep.refl _ _)⟩
  case round =>
    obtain ⟨i, c, A, hi, rfl, rfl, HO, HA, HK⟩ := hrel
    rcases Nat.lt_or_ge i n with hlt | hge
    · have d1 : decide ((i : Int) < (n : Int)) = true := by rw [decide_eq_true_iff]; omega
      have q0 : (0 : Int) ≤ (i : Int) := by omega
      have q1 : (i : Int) < (n : Int) := by omega
      have j5 : IntKind.i64.wrap ((i : Int) + 1) = (i : Int) + 1 := by rw [IntWalk.i64_left, IntWalk.wrap64_in _ ⟨by omega, by omega⟩]
      have hil : i < es.length := by rw [HNE.out]; exact hlt
      have hvl : i < ls.length := by rw [HN.out]; exact hlt
      have hvl' : i < (ls.map intW).length := by rw [List.length_map]; exact hvl
      obtain ⟨bk, ok, rfl, hx⟩ := (HS2.out.keep HK.out (fun ⟨_, _, h⟩ => h)).elem (i := i) hil
      obtain ⟨e, HEE⟩ : ∃ e, Hid (es[i] = e) := ⟨_, Lib.hid rfl⟩
      obtain ⟨z, HZ⟩ : ∃ z, Hid (ls[i] = z) := ⟨_, Lib.hid rfl⟩
      rw [HEE.out] at hx
      have hx1 : wr.rangeAt bk (ok + i * 10) (EE.cells e) := hx
      obtain ⟨t1, t2, t3⟩ := HE2.out.get i hil hvl'
      rw [List.getElem_map, HEE.out, HZ.out] at t1 t3
      rw [HEE.out] at t2
      have hwr : e.wrong = false := t3.trans rfl
      have hz : I64 z := by rw [← HZ.out]; exact HLS.out _ (List.getElem_mem hvl)
      have HTK : Hid (ls.take (i + 1) = ls.take i ++ [z]) := Lib.hid (by rw [← HZ.out]; exact List.take_succ_eq_append_getElem hvl)
      have HNL : Hid ((ls.take i).length = i) := Lib.hid (by rw [List.length_take]; omega)
      have HRN2 := Lib.hid (rangeE_new wr e 60)
      have HKE : Hid (Keep nob wr (wr.alloc (.cells (EE.cells e).toArray 60))) := Lib.hid ((Keep.refl _ _).alloc _)
      have HTC := Lib.hid (toints1_ok z hz e _ (wr.alloc (.cells (EE.cells e).toArray 60)) (Tr.keep (HK.out.then_ HKE.out) (nobD _) _ _ t1))
      obtain ⟨w4, HW4⟩ : ∃ w4, Hid (wr.alloc (.cells (EE.cells e).toArray 60) = w4) := ⟨_, Lib.hid rfl⟩
      obtain ⟨b8, HB8⟩ : ∃ b8, Hid (wr.heap.size = b8) := ⟨_, Lib.hid rfl⟩
      rw [HW4.out, HB8.out] at HRN2
      rw [HW4.out] at HKE HTC
      clear hx t1 t3 hz
      obtain ⟨⟨sk, sn, sneg, sA, sL, sC, sbits, sext, stext, skA, skL, skC⟩, ex, ew⟩ := e
      dsimp only at t2 hwr
      subst t2 hwr
      obtain ⟨e0, e1, e2, e3, e4, e5, e6, e7, e8, e9⟩ := elm_val hx1
      simp only [Nat.add_zero] at e0 e1 e2 e3 e4 e5 e6 e7 e8 e9
      simp only [EE] at HTC
      have hfl := store_flt
      go_upto_region 11 with (fail)
      rw [show wr.alloc (.cells #[.int .i8 (sk : Int), .int .u64 (sn : Int), .bool sneg, .slice sA sL sC, .int .u64 (sbits : Int), .int .i8 sext, .string stext, .slice skA skL skC, .float .f64 0, .bool false] 60) = w4 from HW4.out, HB8.out]
      clear e0 e1 e2 e3 e4 e5 e6 e7 e8 e9
      obtain ⟨e0, e1, e2, e3, e4, e5, e6, e7, e8, e9⟩ := elm_val HRN2.out
      simp only [Nat.zero_add] at e0 e1 e2 e3 e4 e5 e6 e7 e8 e9
      have he1 := HE1.out
      go_upto_region 12 with ((with_reducible refine HTC.out.mono ?_); rintro E w5 ⟨rfl, hk5⟩; have HK5 := Lib.hid hk5; clear hk5)
      have HR5 := Lib.hid (range_keep0 HK5.out HRN2.out)
      clear e0 e1 e2 e3 e4 e5 e6 e7 e8 e9 he1
      obtain ⟨e0, e1, e2, e3, e4, e5, e6, e7, e8, e9⟩ := elm_val HR5.out
      simp only [Nat.zero_add] at e0 e1 e2 e3 e4 e5 e6 e7 e8 e9
      have HKF : Hid (Keep nob w5 (w5.alloc (.cells #[.int .i64 z] 2))) := Lib.hid ((Keep.refl _ _).alloc _)
      have HKT := Lib.hid ((((HK.out.then_ HKE.out).then_ HK5.out)).then_ HKF.out)
      have HOw := Lib.hid (HO.out.keep ((HKE.out.then_ HK5.out).then_ HKF.out) (fun ⟨_, _, h⟩ => h))
      have HSB : Hid (Sl E64 (w5.alloc (.cells #[.int .i64 z] 2)) (some ⟨w5.heap.size, 0, none⟩) 1 [z]) := Lib.hid (Ow.new_ E64 w5 _ _ 1 [z] (Nat.le_refl _) (by decide) rfl (fun j v hj => by simpa [El.flat_cons, El.flat_nil, E64] using hj)).sl
      go_wp2_with (at_builtin; refine wpList_append_ow E64 rfl _ _ 22 rfl 2 _ 8 Tryz.underlying22 infoI64 rfl A i c rfl (ls.take i) HNL.out HOw.out (some ⟨w5.heap.size, 0, none⟩) 1 1 rfl [z] rfl HSB.out (by omega) (by omega) ?_; intro A' c' w6 hap; have HAP := Lib.hid hap; clear hap)
      have hap := HAP.out.ow
      rw [← HTK.out] at hap
      have hzk := HKT.out.size
      have hmm := HM.out
      refine ⟨⟨i + 1, c', A', hlt, rfl, rfl, Lib.hid hap, Lib.hid (fun a ha => ?_), Lib.hid (HKT.out.trans HAP.out.keep (fun j hj ⟨a, ha, hb⟩ => by have := HA.out a ha; omega))⟩, by simp [intOf]; omega⟩
      rcases HAP.out.lies a ha with ⟨a0, h0, h1⟩ | ⟨h1, _⟩
      · have := HA.out a0 h0; omega
      · omega
    · obtain rfl : i = n := by omega
      have d1 : decide ((i : Int) < (i : Int)) = false := by rw [decide_eq_false_iff_not]; omega
      have htk : ls.take i = ls := List.take_of_length_le (by rw [HN.out]; exact Nat.le_refl _)
      rw [htk] at HO
      clear htk
      go_wp2_with (fail)
      go_ret2
      exact ⟨HK2.out.then_ HK.out, A, c, by rw [HN.out]; rfl, HO.out.sl, fun a ha => Nat.le_trans HMW.out (HA.out a ha)⟩
set_option maxRecDepth 100000 in
theorem toints_ok (ls : List Int) (hls : ∀ z ∈ ls, I64 z) (hn9 : ls.length ≤ 1000000000) (r : Raw) (Do : Nat → Prop) (w : World)
    (hck : ∀ W, Keep nob w W → Calls Tryz.prog 12 #[ER.val r] W fun E w' => E = .returned .nilIface ∧ Keep nob W w')
    (hel : ∀ W, Keep nob w W → Calls Tryz.prog 21 #[ER.val r, .bool true] W (ElsPost W Do (ls.map intW))) :
    Calls Tryz.prog 8 #[ER.val r] w (IntsBack w ls) := by
  have HRN := Lib.hid (range_new w r 35)
  have HKA : Hid (Keep nob w (w.alloc (.cells (ER.cells r).toArray 35))) := Lib.hid ((Keep.refl _ _).alloc _)
  obtain ⟨x0, HX0⟩ : ∃ x0, Hid (w.alloc (.cells (ER.cells r).toArray 35) = x0) := ⟨_, Lib.hid rfl⟩
  obtain ⟨b0, HB0⟩ : ∃ b0, Hid (w.heap.size = b0) := ⟨_, Lib.hid rfl⟩
  rw [HX0.out, HB0.out] at HRN
  rw [HX0.out] at HKA
  have HC := Lib.hid (all_ints ls hls hn9 r Do x0 (fun W hk => hck W (HKA.out.then_ hk)) (fun W hk => hel W (HKA.out.then_ hk)))
  obtain ⟨n, HN⟩ : ∃ n, Hid (ls.length = n) := ⟨_, Lib.hid rfl⟩
  obtain ⟨rk, rn, rneg, rA, rL, rC, rbits, rext, rtext, rkA, rkL, rkC⟩ := r
  simp only [ER] at HC ⊢
  have HX : Hid (w.alloc (.cells #[.int .i8 (rk : Int), .int .u64 (rn : Int), .bool rneg, .slice rA rL rC, .int .u64 (rbits : Int), .int .i8 rext, .string rtext, .slice rkA rkL rkC] 35) = x0) := HX0
  obtain ⟨a0, a1, a2, a3, a4, a5, a6, a7⟩ := cells_val HRN.out
  dsimp only at a0 a1 a2 a3 a4 a5 a6 a7
  clear HX0 hck hel hls
  go_enter Tryz.func8, Tryz.ntmps8
  go_upto_region 1 with (fail)
  rw [HX.out, HB0.out]
  go_wp2_with (go_at_call 17; go_must (refine HC.out.mono ?_); rintro E w1 ⟨hk1, A, c, rfl, hs1, hl1⟩; rw [HN.out]; have HK1 := Lib.hid hk1; have HS1 := Lib.hid hs1; have HL1 := Lib.hid hl1; clear hk1 hs1 hl1)
  go_ret2
  exact ⟨HKA.out.then_ HK1.out, A, c, by rw [HN.out]; rfl, HS1.out, fun a ha => Nat.le_trans HKA.out.size (HL1.out a ha)⟩
end Go.Proofs.YteekndchkgdccaaGreatDoor

/- typed.Plain of a typed array of whole numbers. -/
namespace Go.Proofs.YteekndchkgdccaaGreatDoor
open Go.RowKit

/-- a container's values while it grows; their trees lie in old blocks or in new ones -/
structure GrowV (wr : World) (b7 m kind : Nat) (Do : Nat → Prop) (A : Option Addr) (c : Nat) (rs : List Raw) (acc : List V) : Prop where
  ow : Ow ER wr A c rs
  at_ : ∀ a, A = some a → m ≤ a.block
  lt : ∀ a, A = some a → a.block < wr.heap.size
  tr : TrL wr (DelO m Do A) rs acc
  ce : wr.rangeAt b7 0 (ER.cells ⟨kind, 0, false, none, 0, 0, 0, 0, ⟨#[]⟩, A, rs.length, c⟩)
  th : wr.there b7 0 8
theorem GrowV.keep {wr w' : World} {b7 m kind : Nat} {Do : Nat → Prop} {A : Option Addr} {c : Nat} {rs : List Raw} {acc : List V} (h : GrowV wr b7 m kind Do A c rs acc) (k : Keep nob wr w') : GrowV w' b7 m kind Do A c rs acc :=
  ⟨h.ow.keep k (fun ⟨_, _, h⟩ => h), h.at_, fun a ha => Nat.lt_of_lt_of_le (h.lt a ha) k.size, TrL.keep k (fun _ _ h => h) _ _ h.tr, range_keepS k (fun h => h) h.ce, k.there h.th (fun h => h)⟩
theorem GrowV.push {w5 w6 : World} {b7 m kind : Nat} {Do Dv : Nat → Prop} {A A' : Option Addr} {c c' : Nat} {rs : List Raw} {acc : List V} {r : Raw} {v : V} (h : GrowV w5 b7 m kind Do A c rs acc) (hap : Appended ER w5 A (rs ++ [r]) A' c' w6) (h7 : b7 < m) (hm : m ≤ w5.heap.size)
    (h7o : ∀ j, Do j → j ≠ b7) (ht : Tr w5 Dv r v) (hD : ∀ j, j < w5.heap.size → Dv j → DelO m Do A j) : GrowV (w6.setCell ⟨b7, 7, none⟩ (.slice A' (rs.length + 1) c')) b7 m kind Do A' c' (rs ++ [r]) (acc ++ [v]) ∧ Keep (fun k => AtB A k ∨ k = b7) w5 (w6.setCell ⟨b7, 7, none⟩ (.slice A' (rs.length + 1) c')) := by
  have hA' : ∀ a, A' = some a → m ≤ a.block := fun a ha => by
    rcases hap.lies a ha with ⟨a0, h0, h1⟩ | ⟨h1, _⟩
    · have := h.at_ a0 h0; omega
    · omega
  have hk : Keep (· = b7) w6 (w6.setCell ⟨b7, 7, none⟩ (.slice A' (rs.length + 1) c')) := (Keep.refl (· = b7) w6).setCell (fun _ => rfl) _
  have h7A : ¬ AtB A b7 := fun ⟨a, ha, hb⟩ => by have := h.at_ a ha; omega
  have h7A' : ¬ AtB A' b7 := fun ⟨a, ha, hb⟩ => by have := hA' a ha; omega
  have hdel : ∀ j, j < w5.heap.size → DelO m Do A j → ¬ AtB A j ∧ DelO m Do A' j := fun j hj hd => by
    rcases hd with hd | hd
    · exact ⟨fun ⟨a, ha, hb⟩ => by have := h.at_ a ha; omega, .inl hd⟩
    · refine ⟨hd.2, .inr ⟨hd.1, fun ⟨a, ha, hb⟩ => ?_⟩⟩
      rcases hap.lies a ha with ⟨a0, h0, h1⟩ | ⟨h1, _⟩
      · exact hd.2 ⟨a0, h0, by omega⟩
      · omega
  have t1 : TrL w5 (fun j => ¬ AtB A j ∧ DelO m Do A' j) rs acc := TrL.mono hdel _ _ h.tr
  have t2 : Tr w5 (fun j => ¬ AtB A j ∧ DelO m Do A' j) r v := Tr.mono (fun j hj hd => hdel j hj (hD j hj hd)) _ _ ht
  have t3 : TrL w6 (fun j => DelO m Do A' j) (rs ++ [r]) (acc ++ [v]) := TrL.mono (fun _ _ hd => hd.2) _ _ (TrL.keep hap.keep (fun j hd => hd.1) _ _ (TrL.app t1 ⟨t2, trivial⟩))
  have hce : w6.rangeAt b7 0 (ER.cells ⟨kind, 0, false, none, 0, 0, 0, 0, ⟨#[]⟩, A, rs.length, c⟩) := range_keepS hap.keep h7A h.ce
  refine ⟨⟨hap.ow.keep hk (fun ⟨a, ha, hb⟩ => h7A' ⟨a, ha, hb⟩), hA', fun a ha => ?_, TrL.keep hk (fun j hd e => ?_) _ _ t3, ?_, ?_⟩, ?_⟩
  · rcases hap.lies a ha with ⟨a0, h0, h1⟩ | ⟨h1, h2⟩
    · have := h.lt a0 h0; have := hap.keep.size; have := hk.size; omega
    · have := hk.size; omega
  · rcases hd with hd | hd
    · exact h7o j hd.1 e
    · have := hd.1; omega
  · have := range_kids hce A' (rs.length + 1) c'
    rw [List.length_append, List.length_singleton]
    exact this
  · exact World.there_setCells (hap.keep.there h.th h7A) b7 7 [.slice A' (rs.length + 1) c']
  · exact (hap.keep.mono (fun _ _ h => .inl h)).trans hk (fun j _ e => .inr e)
/-- what Plain answers -/
def PlainPost (w : World) (ls : List Int) (E : Ending) (w' : World) : Prop := Keep nob w w' ∧ ∃ r, E = .returned (.tuple #[ER.val r, .nilIface]) ∧ Tr w' (fun k => w.heap.size ≤ k) r (intsV ls)
set_option maxRecDepth 100000 in
set_option maxHeartbeats 2000000 in
theorem plain_ok (ls : List Int) (hn9 : ls.length ≤ 1000000000) (r : Raw) (w : World)
    (hck : ∀ W, Keep nob w W → Calls Tryz.prog 12 #[ER.val r] W fun E w' => E = .returned .nilIface ∧ Keep nob W w')
    (hel : ∀ W, Keep nob w W → Calls Tryz.prog 21 #[ER.val r, .bool false] W (ElsPost W (fun _ => False) (ls.map intW))) :
    Calls Tryz.prog 9 #[ER.val r] w (PlainPost w ls) := by
  obtain ⟨n, HN⟩ : ∃ n, Hid (ls.length = n) := ⟨_, Lib.hid rfl⟩
  rw [HN.out] at hn9
  have HRN := Lib.hid (range_new w r 35)
  have HKA : Hid (Keep nob w (w.alloc (.cells (ER.cells r).toArray 35))) := Lib.hid ((Keep.refl _ _).alloc _)
  obtain ⟨x0, HX0⟩ : ∃ x0, Hid (w.alloc (.cells (ER.cells r).toArray 35) = x0) := ⟨_, Lib.hid rfl⟩
  obtain ⟨b0, HB0⟩ : ∃ b0, Hid (w.heap.size = b0) := ⟨_, Lib.hid rfl⟩
  have HZ0 : Hid (x0.heap.size = b0 + 1) := by unfold Hid; rw [← HX0.out, ← HB0.out]; simp
  rw [HX0.out, HB0.out] at HRN
  rw [HX0.out] at HKA
  obtain ⟨w0, b4, HW0, HB4, HK0, HT0, HL0⟩ := start x0
  have HKW := Lib.hid (HKA.out.then_ HK0.out)
  have HR0 := Lib.hid (range_keep0 HK0.out HRN.out)
  have HC0 := Lib.hid (hck w0 HKW.out)
  have HEL := Lib.hid hel
  obtain ⟨rk, rn, rneg, rA, rL, rC, rbits, rext, rtext, rkA, rkL, rkC⟩ := r
  simp only [ER] at HC0 HEL ⊢
  have HX : Hid (w.alloc (.cells #[.int .i8 (rk : Int), .int .u64 (rn : Int), .bool rneg, .slice rA rL rC, .int .u64 (rbits : Int), .int .i8 rext, .string rtext, .slice rkA rkL rkC] 35) = x0) := HX0
  obtain ⟨a0, a1, a2, a3, a4, a5, a6, a7⟩ := cells_val HR0.out
  dsimp only at a0 a1 a2 a3 a4 a5 a6 a7
  clear HX0 hck hel
  go_enter Tryz.func9, Tryz.ntmps9
  go_upto_region 1 with (fail)
  obtain rfl : b4 = b0 + 1 := by rw [← HB4.out, HZ0.out]
  rw [HX.out, HB0.out, HW0.out]
  go_upto_region 4 with (go_at_call 12; go_must (refine HC0.out.mono ?_); rintro E w1 ⟨rfl, hk1⟩; have HK1 := Lib.hid hk1; clear hk1)
  have HK01 := Lib.hid (HKW.out.then_ HK1.out)
  have HR1 := Lib.hid (range_keep0 HK1.out HR0.out)
  clear a0 a1 a2 a3 a4 a5 a6 a7
  obtain ⟨a0, a1, a2, a3, a4, a5, a6, a7⟩ := cells_val HR1.out
  dsimp only at a0 a1 a2 a3 a4 a5 a6 a7
  have HE0 := Lib.hid (HEL.out w1 HK01.out)
  go_upto_block 0 with (go_at_call 21; go_must (refine HE0.out.mono ?_); rintro E w2 ⟨hk2, A2, c2, es, rfl, hs2, -, he2⟩; rw [List.length_map, HN.out]; have HK12 := Lib.hid hk2; have HK2 := Lib.hid (HK01.out.then_ hk2); have HS2 := Lib.hid hs2; have HE2 := Lib.hid he2; clear hk2 hs2 he2)
  have HNE : Hid (es.length = n) := Lib.hid (by rw [HE2.out.len, List.length_map, HN.out])
  have hle := HS2.out.le
  have hcap := HS2.out.cap
  rw [HNE.out] at hle
  obtain ⟨w3, HW3⟩ : ∃ w3, Hid (w2.alloc (.cells #[.int .i8 7, .int .u64 0, .bool false, .slice none 0 0, .int .u64 0, .int .i8 0, .string ⟨#[]⟩, .slice none 0 0] 35) = w3) := ⟨_, Lib.hid rfl⟩
  obtain ⟨b7, HB7⟩ : ∃ b7, Hid (w2.heap.size = b7) := ⟨_, Lib.hid rfl⟩
  have HK3 : Hid (Keep nob w2 w3) := by unfold Hid; rw [← HW3.out]; exact (Keep.refl _ _).alloc _
  have HM7 : Hid (w3.heap.size = b7 + 1) := by unfold Hid; rw [← HW3.out, ← HB7.out]; simp
  obtain ⟨Do, HDo⟩ : ∃ Do : Nat → Prop, Hid ((fun j => w1.heap.size ≤ j ∧ j < b7) = Do) := ⟨_, Lib.hid rfl⟩
  have HGR : Hid (GrowV w3 b7 w3.heap.size 7 Do none 0 [] []) := by
    refine Lib.hid ⟨⟨Sl.nil_ ER w3 none (by decide), fun h => absurd h (by decide)⟩, fun _ ha => (by cases ha), fun _ ha => (by cases ha), trivial, ?_, ?_⟩
    · rw [← HW3.out, ← HB7.out]
      exact range_new w2 ⟨7, 0, false, none, 0, 0, 0, 0, ⟨#[]⟩, none, 0, 0⟩ 35
    · rw [← HW3.out, ← HB7.out]
      exact there_alloc_new w2 _ _ 8 (Nat.le_refl _)
  rw [HW3.out, HB7.out]
  go_wp2_with (fail)
  obtain ⟨m, HMM⟩ : ∃ m, Hid (w3.heap.size = m) := ⟨_, Lib.hid rfl⟩
  rw [HMM.out] at HGR HM7
  have hfl := store_flt
  have HLE2 : Hid (EL w2 Do es (ls.map intW)) := by
    refine Lib.hid (HE2.out.mono (fun j hj hd => ?_))
    rw [← HDo.out, ← HB7.out]
    rcases hd with hd | hd
    · exact hd.1.elim
    · exact ⟨hd, hj⟩
  go_loopw [28] (fun u28 wr => ∃ (i c : Nat) (A : Option Addr) (rs : List Raw), i ≤ n ∧ u28 = .int .i64 (i : Int) ∧ Hid (rs.length = i) ∧ Hid (GrowV wr b7 m 7 Do A c rs ((ls.map intW).take i)) ∧ Hid (Keep (· = b7) w3 wr)) (fun u28 _ => n - (intOf u28).toNat)
  case atStart => exact ⟨0, 0, none, [], Nat.zero_le _, rfl, Lib.hid rfl, HGR, Lib.hid (Keep.refl _ _)⟩
  case round =>
    obtain ⟨i, c, A, rs, hi, rfl, HRL, HGW, HK⟩ := hrel
    rcases Nat.lt_or_ge i n with hlt | hge
    · have d1 : decide ((i : Int) < (n : Int)) = true := by rw [decide_eq_true_iff]; omega
      have q0 : (0 : Int) ≤ (i : Int) := by omega
      have q1 : (i : Int) < (n : Int) := by omega
      have j5 : IntKind.i64.wrap ((i : Int) + 1) = (i : Int) + 1 := by rw [IntWalk.i64_left, IntWalk.wrap64_in _ ⟨by omega, by omega⟩]
      have hil : i < es.length := by rw [HNE.out]; exact hlt
      have hvl : i < ls.length := by rw [HN.out]; exact hlt
      have hvl' : i < (ls.map intW).length := by rw [List.length_map]; exact hvl
      obtain ⟨bk, ok, rfl, hx0⟩ := HS2.out.elem (i := i) hil
      have hb : bk < b7 := by rw [← HB7.out]; exact World.block_lt_of_cell? w2 _ (hx0 0 _ rfl)
      have hx := range_keepS HK.out (by omega : ¬ bk = b7) (HK3.out.range hx0 (fun h => h))
      obtain ⟨e, HEE⟩ : ∃ e, Hid (es[i] = e) := ⟨_, Lib.hid rfl⟩
      obtain ⟨z, HZ⟩ : ∃ z, Hid (ls[i] = z) := ⟨_, Lib.hid rfl⟩
      rw [HEE.out] at hx
      have hx1 : wr.rangeAt bk (ok + i * 10) (EE.cells e) := hx
      obtain ⟨t1, -, -⟩ := HLE2.out.get i hil hvl'
      rw [List.getElem_map, HEE.out, HZ.out] at t1
      have hk3 := t1.kd
      have HTE : Hid (Tr wr Do e.r (intW z)) := Lib.hid (Tr.keep HK.out (fun j hj e => by rw [← HDo.out] at hj; omega) _ _ (Tr.keep HK3.out (nobD _) _ _ t1))
      have HTK : Hid ((ls.map intW).take (i + 1) = (ls.map intW).take i ++ [intW z]) := Lib.hid (by rw [← HZ.out, List.take_succ_eq_append_getElem hvl', List.getElem_map])
      have HRN2 := Lib.hid (rangeE_new wr e 60)
      have HKE : Hid (Keep nob wr (wr.alloc (.cells (EE.cells e).toArray 60))) := Lib.hid ((Keep.refl _ _).alloc _)
      obtain ⟨w4, HW4⟩ : ∃ w4, Hid (wr.alloc (.cells (EE.cells e).toArray 60) = w4) := ⟨_, Lib.hid rfl⟩
      obtain ⟨b8, HB8⟩ : ∃ b8, Hid (wr.heap.size = b8) := ⟨_, Lib.hid rfl⟩
      rw [HW4.out, HB8.out] at HRN2
      rw [HW4.out] at HKE
      clear hx t1 hx0
      obtain ⟨⟨sk, sn, sneg, sA, sL, sC, sbits, sext, stext, skA, skL, skC⟩, ex, ew⟩ := e
      have hk3' : sk = 3 := hk3
      subst hk3'
      obtain ⟨e0, e1, e2, e3, e4, e5, e6, e7, e8, e9⟩ := elm_val hx1
      simp only [Nat.add_zero, Int.cast_ofNat_Int] at e0 e1 e2 e3 e4 e5 e6 e7 e8 e9
      obtain ⟨-, -, -, -, -, -, -, a7⟩ := cells_val HGW.out.ce
      rw [HRL.out] at a7
      clear hk3
      go_upto_region 11 with (fail)
      rw [show wr.alloc (.cells #[.int .i8 3, .int .u64 (sn : Int), .bool sneg, .slice sA sL sC, .int .u64 (sbits : Int), .int .i8 sext, .string stext, .slice skA skL skC, .float .f64 ex, .bool ew] 60) = w4 from HW4.out, HB8.out]
      clear e0 e1 e2 e3 e4 e5 e6 e7 e8 e9 a7
      obtain ⟨e0, e1, e2, e3, e4, e5, e6, e7, e8, e9⟩ := elm_val HRN2.out
      simp only [Nat.zero_add, Int.cast_ofNat_Int] at e0 e1 e2 e3 e4 e5 e6 e7 e8 e9
      have HG4 := Lib.hid (HGW.out.keep HKE.out)
      obtain ⟨-, -, -, -, -, -, -, a7⟩ := cells_val HG4.out.ce
      rw [HRL.out] at a7
      have HKF : Hid (Keep nob w4 (w4.alloc (.cells (ER.cells ⟨3, sn, sneg, sA, sL, sC, sbits, sext, stext, skA, skL, skC⟩).toArray 35))) := Lib.hid ((Keep.refl _ _).alloc _)
      have HG5 := Lib.hid (HG4.out.keep HKF.out)
      have HSL5 := Lib.hid (one_sl w4 ⟨3, sn, sneg, sA, sL, sC, sbits, sext, stext, skA, skL, skC⟩ 35)
      have HTF := Lib.hid (Tr.keep (HKE.out.then_ HKF.out) (nobD _) _ _ HTE.out)
      have HKT := Lib.hid (HKE.out.then_ HKF.out)
      go_wp2_with (at_builtin; refine wpList_append_ow ER rfl _ _ 33 rfl 35 _ 104 Tryz.underlying33 infoValue rfl A i c rfl rs HRL.out HG5.out.ow (some ⟨w4.heap.size, 0, none⟩) 1 1 rfl [_] rfl HSL5.out (by omega) (by omega) ?_; intro A' c' w6 hap; have HAP := Lib.hid hap; clear hap; have hth6 := HAP.out.keep.there HG5.out.th (fun ⟨a, ha, hb⟩ => by have h1 := HG5.out.at_ a ha; have h2 := HM7.out; omega); obtain ⟨-, -, -, -, -, -, -, v7, ⟨-, -, -, -, -, -, -, d7⟩, -, -, -, -, -, -, -, f7⟩ := eight hth6; clear hth6)
      have hz3 := HK.out.size
      have hz5 := HKT.out.size
      have hmm := HMM.out
      have hm7 := HM7.out
      obtain ⟨g7, k7⟩ := HG5.out.push HAP.out (by omega) (by omega) (fun j hj e => by rw [← HDo.out] at hj; omega) HTF.out (fun j _ hd => .inl ⟨hd, by rw [← HDo.out] at hd; omega⟩)
      have hAm := fun a ha => HG5.out.at_ a ha
      rw [HRL.out, ← HTK.out] at g7
      rw [HRL.out] at k7
      refine ⟨⟨i + 1, c', A', _, hlt, rfl, Lib.hid (by rw [List.length_append, HRL.out]; rfl), Lib.hid g7, Lib.hid ?_⟩, by simp [intOf]; omega⟩
      refine (HK.out.then_ (HKT.out.mono (fun _ _ h => h.elim))).trans k7 ?_
      rintro j h1 (⟨a, ha, hb⟩ | h)
      · have := hAm a ha; omega
      · exact h
    · obtain rfl : i = n := by omega
      have d1 : decide ((i : Int) < (i : Int)) = false := by rw [decide_eq_false_iff_not]; omega
      have htk : (ls.map intW).take i = ls.map intW := List.take_of_length_le (by rw [List.length_map, HN.out]; exact Nat.le_refl _)
      rw [htk] at HGW
      clear htk
      obtain ⟨a0, a1, a2, a3, a4, a5, a6, a7⟩ := cells_val HGW.out.ce
      rw [HRL.out] at a7
      have HTW : Hid (wr.there (b0 + 1) 0 8) := by
        have h1 := HL0.out
        have h2 := HK1.out.size
        have h3 := HB7.out
        have h4 := HK12.out.size
        exact Lib.hid (HK.out.there ((((HT0.out.keep' HK1.out).keep' HK12.out).keep' HK3.out)) (fun h => by omega))
      obtain ⟨v0, v1, v2, v3, v4, v5, v6, v7, ⟨c0, c1, c2', c3, c4, c5, c6, c7⟩, f0, f1, f2, f3, f4, f5, f6, f7⟩ := eight HTW.out
      go_wp2
      obtain ⟨w10, e10, r10, k10⟩ := put8 HTW.out ⟨7, 0, false, none, 0, 0, 0, 0, ⟨#[]⟩, A, i, c⟩ (.int .i8 7) (.int .u64 0) (.bool false) (.slice none 0 0) (.int .u64 0) (.int .i8 0) (.string ⟨#[]⟩) (.slice A i c) rfl
      rw [e10.out]
      have h1 := HL0.out
      have h2 := HK1.out.size
      have h3 := HB7.out
      have h4 := HK12.out.size
      have h5 := HK01.out.size
      have h6 := HM7.out
      have h7 := HMM.out
      have h8 := HB0.out
      have h9 := HK.out.size
      refine ret_vt rfl rfl rfl rfl r10 ⟨((HK2.out.then_ HK3.out).trans HK.out (fun k h1 h2 => by have := HK2.out.size; omega)).trans k10 (fun k h1 h2 => by omega), _, rfl, ?_⟩
      unfold intsV V.lis
      have hAm := fun a ha => HGW.out.at_ a ha
      refine ⟨rfl, rfl, rfl, rfl, rfl, rfl, ⟨rfl, Sl.nil_ EU _ none (Nat.zero_le _), fun h => absurd rfl h⟩, rs, HRL.out.symm, HGW.out.ow.sl.keep k10 (fun ⟨a, ha, hS⟩ => by have := hAm a ha; have hS' : a.block = b0 + 1 := hS; omega), fun hne => ?_, TrL.mono (fun j _ hj => ?_) _ _ (TrL.keep k10 (fun j hj e => ?_) _ _ HGW.out.tr)⟩
      · obtain ⟨b1, o1, hA, -⟩ := HGW.out.ow.sl.at_ hne
        exact ⟨_, hA, by have := hAm _ hA; dsimp only at this ⊢; omega⟩
      · rcases hj with hj | hj
        · have hj1 := hj.1
          rw [← HDo.out] at hj1
          omega
        · have := hj.1; omega
      · rcases hj with hj | hj
        · have hj1 := hj.1
          rw [← HDo.out] at hj1
          omega
        · have := hj.1; omega
end Go.Proofs.YteekndchkgdccaaGreatDoor

/- Typed arrays of whole numbers and their lists: what Ints, ToInts, Plain and Check answer of them. -/
namespace Go.Proofs.YteekndchkgdccaaGreatDoor
open Go.RowKit

section
variable {k : Nat} {small : Bool} {l : List Int} {m c : Nat} {A : Option Addr} {B : Nat} {sa : Nat → Addr} {w : World}
theorem ints_good (h1 : 1 ≤ k) (h8 : k ≤ 8) (g : GL B sa w) (hm : l.length = m) (h : Sl E64 w A c l) (hmm : m ≤ 1000000000) (hall : l.all (hasK k) = true) :
    Calls Tryz.prog 6 #[.slice A m c, .int .i8 (k : Int), .bool small] w fun E w' => Keep nob w w' ∧ ∃ r, E = .returned (.tuple #[ER.val r, .nilIface]) ∧ Tr w' (fun b => w.heap.size ≤ b) r (arrV (64 + iK small k) (encL (litK small k) (nK k) (l.map bits64))) :=
  (ints_ok k small h1 h8 l m c A B sa w g hm h hmm).mono fun _ _ h => by
    rcases h with ⟨_, h⟩ | ⟨h, _⟩
    · exact h
    · rw [hall] at h; cases h
theorem ints_bad (h1 : 1 ≤ k) (h8 : k ≤ 8) (g : GL B sa w) (hm : l.length = m) (h : Sl E64 w A c l) (hmm : m ≤ 1000000000) (hall : l.all (hasK k) = false) :
    Calls Tryz.prog 6 #[.slice A m c, .int .i8 (k : Int), .bool small] w fun E w' => Keep nob w w' ∧ ∃ ev path, E = .returned (.tuple #[ER.val Raw.zero, ev]) ∧ PErr sa w' (fun b => w.heap.size ≤ b) ev 4 0 path :=
  (ints_ok k small h1 h8 l m c A B sa w g hm h hmm).mono fun _ _ h => by
    rcases h with ⟨h, _⟩ | ⟨_, h⟩
    · rw [hall] at h; cases h
    · exact h
end
theorem i64_nat {z : Int} (h : I64 z) : z.natAbs < 18446744073709551616 := by unfold I64 at h; omega
theorem int_sm {z : Int} (h : I64 z) : Sm (intW z) ∧ TxV (intW z) ∧ depV (intW z) = 0 := by
  have h2 := numL_len_le (f := 2) (x := z.natAbs) (by have := i64_nat h; omega)
  unfold intW V.int
  refine ⟨⟨by omega, by simp, by decide, trivial⟩, ⟨by decide, trivial⟩, ?_⟩
  unfold depV
  rw [if_neg (by decide)]
theorem ints_sm {l : List Int} (h : ∀ z ∈ l, I64 z) (hl : l.length ≤ 1000000000) : Sm (intsV l) ∧ TxV (intsV l) ∧ depV (intsV l) ≤ 1 := by
  have hd : ∀ vs : List V, (∀ v ∈ vs, depV v = 0) → depL vs = 0 := fun vs => by
    induction vs with
    | nil => intro _; exact depL_nil
    | cons v vs ih => intro h; rw [depL_cons, h v (List.mem_cons_self), ih (fun x hx => h x (List.mem_cons_of_mem _ hx))]; rfl
  have hm : ∀ v ∈ l.map intW, ∃ z, I64 z ∧ v = intW z := fun v hv => by
    obtain ⟨z, hz, rfl⟩ := List.mem_map.1 hv
    exact ⟨z, h z hz, rfl⟩
  unfold intsV V.lis
  refine ⟨⟨by simp, by rw [List.length_map]; exact hl, by decide, (smL_iff _).2 (fun v hv => ?_)⟩, ⟨by decide, (txL_iff _).2 (fun v hv => ?_)⟩, ?_⟩
  · obtain ⟨z, hz, rfl⟩ := hm v hv; exact (int_sm hz).1
  · obtain ⟨z, hz, rfl⟩ := hm v hv; exact (int_sm hz).2.1
  · unfold depV
    rw [if_pos (by decide), hd _ (fun v hv => by obtain ⟨z, hz, rfl⟩ := hm v hv; exact (int_sm hz).2.2)]
    exact Nat.le_refl _
theorem arr_sm {tag : Nat} {b : List Nat} (hb : b.length ≤ 9000000000) : Sm (arrV tag b) ∧ TxV (arrV tag b) ∧ depV (arrV tag b) ≤ 1 := by
  unfold arrV V.byt
  refine ⟨⟨by simp, by simp, by decide, ⟨by simp, by simp, by decide, trivial⟩, trivial⟩, ⟨by decide, ⟨by rw [Bt_size]; omega, trivial⟩, trivial⟩, ?_⟩
  unfold depV
  rw [if_pos (by decide), depL_cons, depL_nil]
  unfold depV
  rw [if_neg (by decide)]
  decide
section
variable {r : Raw} {D : Nat → Prop} {B : Nat} {sa : Nat → Addr} {w : World}
theorem arr_check (tag : Nat) (b : List Nat) (h4 : 4 ≤ tag) (hb : b.length ≤ 9000000000) (g : GL B sa w) (ht : Tr w D r (arrV tag b)) (hD : ∀ j, D j → j < w.heap.size) :
    Calls Tryz.prog 12 #[ER.val r] w fun e w' => e = .returned .nilIface ∧ Keep nob w w' := by
  obtain ⟨h1, h2, h3⟩ := arr_sm (tag := tag) hb
  exact check_ok _ (arr_all tag b h4) h1 h2 (by omega) r D B sa w g ht hD
theorem ints_check (l : List Int) (hl : ∀ z ∈ l, I64 z) (hn : l.length ≤ 1000000000) (g : GL B sa w) (ht : Tr w D r (intsV l)) (hD : ∀ j, D j → j < w.heap.size) :
    Calls Tryz.prog 12 #[ER.val r] w fun e w' => e = .returned .nilIface ∧ Keep nob w w' := by
  obtain ⟨h1, h2, h3⟩ := ints_sm hl hn
  exact check_ok _ (ints_all l) h1 h2 (by omega) r D B sa w g ht hD
/-- a list of whole numbers as numbers -/
theorem list_back (l : List Int) (hl : ∀ z ∈ l, I64 z) (hn : l.length ≤ 1000000000) (g : GL B sa w) (ht : Tr w D r (intsV l)) (hD : ∀ j, D j → j < w.heap.size) : Calls Tryz.prog 8 #[ER.val r] w (IntsBack w l) :=
  toints_ok l hl hn r D w (fun W k => ints_check l hl hn (g.keep k (fun _ h => h.elim)) (Tr.keep k (nobD D) _ _ ht) (fun j hj => Nat.lt_of_lt_of_le (hD j hj) k.size))
    (fun W k => elements_list 0 false [] 0 0 ⟨#[]⟩ (l.map intW) (by rw [List.length_map]; exact hn) r D W (Tr.keep k (nobD D) _ _ ht) (fun j hj => Nat.lt_of_lt_of_le (hD j hj) k.size))
variable {k : Nat} {small : Bool} {l : List Int}
/-- the bytes of numbers that a kind has are these numbers -/
theorem arr_nums (h1 : 1 ≤ k) (h8 : k ≤ 8) (hl : ∀ z ∈ l, I64 z) (hall : l.all (hasK k) = true) : arrN k small l.length (encL (litK small k) (nK k) (l.map bits64)) = l := by
  unfold arrN
  refine dec_ints (litK small k) (sgK k) (nK k) (nK_pos k).1 (nK_pos k).2 l (fun z hz => ?_)
  rw [← hasK_N k h1 h8 z (hl z hz).1 (hl z hz).2]
  exact List.all_eq_true.1 hall z hz
theorem enc_len9 (k : Nat) (small : Bool) (l : List Int) (hn : l.length ≤ 1000000000) : (encL (litK small k) (nK k) (l.map bits64)).length = nK k * l.length ∧ nK k * l.length ≤ 8000000000 := by
  refine ⟨by rw [encL_len, List.length_map], Nat.le_trans (Nat.mul_le_mul (nK_pos k).2 hn) (by decide)⟩
theorem arr_elems (h1 : 1 ≤ k) (h8 : k ≤ 8) (hl : ∀ z ∈ l, I64 z) (hn : l.length ≤ 1000000000) (hall : l.all (hasK k) = true) (lists : Bool) (g : GL B sa w) (ht : Tr w D r (arrV (64 + iK small k) (encL (litK small k) (nK k) (l.map bits64)))) :
    Calls Tryz.prog 21 #[ER.val r, .bool lists] w (ElsPost w (fun _ => False) (l.map intW)) := by
  have h := elements_arr k small h1 h8 l.length _ lists (encL_8 _ _ _) (enc_len9 k small l hn).1 hn r D B sa w g ht
  rw [arr_nums h1 h8 hl hall] at h
  exact h
theorem arr_back (h1 : 1 ≤ k) (h8 : k ≤ 8) (hl : ∀ z ∈ l, I64 z) (hn : l.length ≤ 1000000000) (hall : l.all (hasK k) = true) (g : GL B sa w) (ht : Tr w D r (arrV (64 + iK small k) (encL (litK small k) (nK k) (l.map bits64)))) (hD : ∀ j, D j → j < w.heap.size) :
    Calls Tryz.prog 8 #[ER.val r] w (IntsBack w l) :=
  toints_ok l hl hn r (fun _ => False) w (fun W kk => arr_check _ _ (by omega) (by have := enc_len9 k small l hn; omega) (g.keep kk (fun _ h => h.elim)) (Tr.keep kk (nobD D) _ _ ht) (fun j hj => Nat.lt_of_lt_of_le (hD j hj) kk.size))
    (fun W kk => arr_elems h1 h8 hl hn hall true (g.keep kk (fun _ h => h.elim)) (Tr.keep kk (nobD D) _ _ ht))
theorem arr_plain (h1 : 1 ≤ k) (h8 : k ≤ 8) (hl : ∀ z ∈ l, I64 z) (hn : l.length ≤ 1000000000) (hall : l.all (hasK k) = true) (g : GL B sa w) (ht : Tr w D r (arrV (64 + iK small k) (encL (litK small k) (nK k) (l.map bits64)))) (hD : ∀ j, D j → j < w.heap.size) :
    Calls Tryz.prog 9 #[ER.val r] w (PlainPost w l) :=
  plain_ok l hn r w (fun W kk => arr_check _ _ (by omega) (by have := enc_len9 k small l hn; omega) (g.keep kk (fun _ h => h.elim)) (Tr.keep kk (nobD D) _ _ ht) (fun j hj => Nat.lt_of_lt_of_le (hD j hj) kk.size))
    (fun W kk => arr_elems h1 h8 hl hn hall false (g.keep kk (fun _ h => h.elim)) (Tr.keep kk (nobD D) _ _ ht))
end
/-- the bytes turned about element by element: the law's last loop -/
theorem turn_ok (k : Nat) (l : List Nat) (i : Nat) (h : i < nK k * l.length) : (encL false (nK k) l).getD i 0 = (encL (litK true k) (nK k) l).getD (i / nK k * nK k + nK k - 1 - i % nK k) 0 := by
  have hp := (nK_pos k).1
  cases hk : litK true k with
  | true => exact encL_turn (nK k) hp l i h
  | false =>
    have h1 : nK k = 1 := by unfold litK at hk; simp at hk; omega
    rw [h1, Nat.div_one, Nat.mul_one, Nat.mod_one]
    rfl
end Go.Proofs.YteekndchkgdccaaGreatDoor

/- cruciblelaw25.lives. -/
namespace Go.Proofs.YteekndchkgdccaaGreatDoor
open Go.RowKit

/-- a value laid into cells of its own -/
theorem boxed (w : World) (r : Raw) : ∃ x b, Hid (w.alloc (.cells (ER.cells r).toArray 35) = x) ∧ Hid (w.heap.size = b) ∧ Hid (x.rangeAt b 0 (ER.cells r)) ∧ Hid (Keep nob w x) ∧ Hid (b < x.heap.size) :=
  ⟨_, _, Lib.hid rfl, Lib.hid rfl, Lib.hid (range_new w r 35), Lib.hid ((Keep.refl _ _).alloc _), Lib.hid (by simp)⟩
theorem two_new (w : World) (x y : Int) (T : TypeId) : Sl E64 (w.alloc (.cells #[.int .i64 x, .int .i64 y] T)) (some ⟨w.heap.size, 0, none⟩) 2 [x, y] :=
  ⟨Nat.le_refl _, by decide, fun _ => ⟨_, _, rfl, range_alloc_new w _ T _ (fun j v hj => by simpa [El.flat_cons, El.flat_nil, E64] using hj)⟩⟩
theorem ints_open {W : World} {D : Nat → Prop} {r : Raw} {l : List Int} (h : Tr W D r (intsV l)) : r.kL = l.length := by
  unfold intsV V.lis at h
  obtain ⟨-, -, -, -, -, -, -, rs, g1, -, -, g4⟩ := h
  rw [g1, g4.len, List.length_map]
set_option maxRecDepth 100000 in
theorem lives_text : Bt (encL (litK true 6) (nK 6) ([1, -2].map bits64)) = ⟨#[1, 0, 254, 255]⟩ := by kernel_rfl
set_option maxRecDepth 100000 in
set_option maxHeartbeats 2000000 in
theorem lives25_ok (B : Nat) (sa : Nat → Addr) (w : World) (g : GL B sa w) : Calls Tryz.prog 4 #[] w fun E w' => E = .returned (.bool true) ∧ Keep nob w w' := by
  have hl : ∀ z ∈ ([1, -2] : List Int), I64 z := fun z hz => by
    unfold I64
    simp only [List.mem_cons, List.not_mem_nil, or_false] at hz
    rcases hz with rfl | rfl <;> decide
  have hall : ([1, -2] : List Int).all (hasK 6) = true := by decide
  obtain ⟨w0, HW0⟩ : ∃ w0, Hid (w.alloc (.cells #[.int .i64 1, .int .i64 (-2)] 2) = w0) := ⟨_, Lib.hid rfl⟩
  obtain ⟨b0, HB0⟩ : ∃ b0, Hid (w.heap.size = b0) := ⟨_, Lib.hid rfl⟩
  have HK0 : Hid (Keep nob w w0) := by unfold Hid; rw [← HW0.out]; exact (Keep.refl _ _).alloc _
  have hs0 := two_new w 1 (-2) 2
  rw [HW0.out, HB0.out] at hs0
  have HG := Lib.hid (fun (W : World) (k : Keep nob w0 W) => g.keep (HK0.out.then_ k) (fun _ h => h.elim))
  have HI := Lib.hid (ints_good (k := 6) (small := true) (by decide) (by decide) (HG.out w0 (Keep.refl _ _)) rfl hs0 (by decide) hall)
  simp only [Int.cast_ofNat_Int] at HI
  have HTB := Lib.hid (fun (r : Raw) (D : Nat → Prop) (W : World) (k : Keep nob w0 W) (ht : Tr W D r (arrV (64 + iK true 6) (encL (litK true 6) (nK 6) ([1, -2].map bits64)))) (hD : ∀ j, D j → j < W.heap.size) => arr_back (k := 6) (small := true) (by decide) (by decide) hl (by decide) hall (HG.out W k) ht hD)
  have HTP := Lib.hid (fun (r : Raw) (D : Nat → Prop) (W : World) (k : Keep nob w0 W) (ht : Tr W D r (arrV (64 + iK true 6) (encL (litK true 6) (nK 6) ([1, -2].map bits64)))) (hD : ∀ j, D j → j < W.heap.size) => arr_plain (k := 6) (small := true) (by decide) (by decide) hl (by decide) hall (HG.out W k) ht hD)
  clear hl hall g hs0
  go_enter Tryz.func4, Tryz.ntmps4
  go_upto_region 2 with (first
    | (go_at_call 6; rw [HW0.out, HB0.out]; go_must (refine HI.out.mono ?_); rintro E w1 ⟨hk1, r, rfl, ht1⟩; have HK1 := Lib.hid hk1; have HT1 := Lib.hid ht1; clear hk1 ht1; unfold ER))
  obtain ⟨x1, b1, HX1, HB1, HR1, HKX1, HL1⟩ := boxed w1 r
  rw [show w1.alloc (.cells #[.int .i8 (r.kind : Int), .int .u64 (r.n : Int), .bool r.neg, .slice r.mA r.mL r.mC, .int .u64 (r.bits : Int), .int .i8 r.ext, .string r.text, .slice r.kA r.kL r.kC] 35) = x1 from HX1.out, HB1.out]
  obtain ⟨a0, a1, a2, a3, a4, a5, a6, a7⟩ := cells_val HR1.out
  have HT1x := Lib.hid (Tr.keep HKX1.out (nobD _) _ _ HT1.out)
  have HK01 := Lib.hid (HK1.out.then_ HKX1.out)
  have hz1 := HK1.out.size
  have HC1 := Lib.hid (HTB.out r _ x1 HK01.out (Tr.mono (D' := fun j => w0.heap.size ≤ j ∧ j < x1.heap.size) (fun j hj hd => ⟨hd, hj⟩) _ _ HT1x.out) (fun j hj => hj.2))
  have HC2 := Lib.hid (fun (W : World) (k : Keep nob x1 W) => HTP.out r _ W (HK01.out.then_ k) (Tr.mono (D' := fun j => w0.heap.size ≤ j ∧ j < W.heap.size) (fun j hj hd => ⟨hd, hj⟩) _ _ (Tr.keep k (nobD _) _ _ HT1x.out)) (fun j hj => hj.2))
  simp only [ER] at HC1 HC2
  go_upto_region 3 with (go_at_call 8; go_must (refine HC1.out.mono ?_); rintro E w2 ⟨hk2, A2, c2, rfl, hs2, hl2⟩; have HK2 := Lib.hid hk2; have HS2 := Lib.hid hs2; clear hk2 hs2 hl2)
  have HR2 := Lib.hid (range_keep0 HK2.out HR1.out)
  clear a0 a1 a2 a3 a4 a5 a6 a7
  obtain ⟨a0, a1, a2, a3, a4, a5, a6, a7⟩ := cells_val HR2.out
  go_upto_region 4 with (go_at_call 9; go_must (refine (HC2.out _ HK2.out).mono ?_); rintro E w3 ⟨hk3, p, rfl, ht3⟩; have HK3 := Lib.hid hk3; have HT3 := Lib.hid ht3; clear hk3 ht3; unfold ER)
  obtain ⟨x3, b3, HX3, HB3, HR3, HKX3, HL3⟩ := boxed w3 p
  rw [show w3.alloc (.cells #[.int .i8 (p.kind : Int), .int .u64 (p.n : Int), .bool p.neg, .slice p.mA p.mL p.mC, .int .u64 (p.bits : Int), .int .i8 p.ext, .string p.text, .slice p.kA p.kL p.kC] 35) = x3 from HX3.out, HB3.out]
  have HK13 := Lib.hid ((HK2.out.then_ HK3.out).then_ HKX3.out)
  have HT4 := Lib.hid (Tr.keep HK13.out (nobD _) _ _ HT1x.out)
  obtain ⟨bk, ok, -, hn, hkl, hka, -, htx⟩ := arr_open HT4.out
  have hpl := ints_open HT3.out
  rw [lives_text] at htx
  have hn' : (r.n : Int) = 77 := by rw [hn]; decide
  have hpl' : p.kL = 2 := hpl
  have HR4 := Lib.hid (range_keep0 HK13.out HR1.out)
  clear a0 a1 a2 a3 a4 a5 a6 a7
  obtain ⟨a0, a1, a2, a3, a4, a5, a6, a7⟩ := cells_val HR4.out
  obtain ⟨e0, e1, e2, e3, e4, e5, e6, e7⟩ := cells_val HR3.out
  rw [hn'] at a1
  rw [hkl, hka] at a7
  rw [hpl'] at e7
  have HS5 := Lib.hid (fun (W : World) (k : Keep nob x3 W) => (HS2.out.keep ((HK3.out.then_ HKX3.out).then_ k) (fun ⟨_, _, h⟩ => h)))
  have HK5 : Hid (Keep nob x3 (x3.alloc (.cells #[.int .i64 1, .int .i64 (-2)] 2))) := Lib.hid ((Keep.refl _ _).alloc _)
  have HSA := Lib.hid (same64_ok A2 (some ⟨x3.heap.size, 0, none⟩) c2 2 2 [1, -2] (x3.alloc (.cells #[.int .i64 1, .int .i64 (-2)] 2)) rfl (HS5.out _ HK5.out) (two_new x3 1 (-2) 2))
  have HKL := Lib.hid ((HK13.out.then_ HK5.out))
  have HR5 := Lib.hid (range_keep0 HK5.out HR3.out)
  have HPL := Lib.hid hpl'
  clear hn hkl hka hpl hn' hpl'
  go_wp2_with (go_at_call 10; go_must (refine HSA.out.mono ?_); rintro E w5 ⟨rfl, hk5⟩; have HK6 := Lib.hid hk5; have hr6 := range_keep0 hk5 HR5.out; obtain ⟨g0, g1, g2, g3, g4, g5, g6, g7⟩ := cells_val hr6; rw [HPL.out] at g7; clear hk5 hr6)
  go_ret
  exact ⟨rfl, ((HK0.out.then_ HK01.out).then_ HKL.out).then_ HK6.out⟩
end Go.Proofs.YteekndchkgdccaaGreatDoor
