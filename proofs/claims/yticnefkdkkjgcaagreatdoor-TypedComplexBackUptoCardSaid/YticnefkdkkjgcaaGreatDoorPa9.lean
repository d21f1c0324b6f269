/- package real's patterns and parts. -/
import Derived.Laws.Externs
import Derived.Test.YticnefkdkkjgcaaGreatDoorPa8
namespace Go.Proofs.YticnefkdkkjgcaaGreatDoor
open Go.RowKit

theorem call_bits (x : Nat) (w : World) : (callFunc 66 #[.float .f64 x]).run Tryz.prog w = .ok (.value (.int .u64 (x : Int))) w := by
  rw [run_callFunc_extern (e := Extern.MathFloatBits.float64bits) Tryz.func66 (by kernel_rfl) (by kernel_rfl) (by kernel_rfl) (by kernel_rfl)]
  rfl
theorem call_from (x : Nat) (w : World) : (callFunc 51 #[.int .u64 (x : Int)]).run Tryz.prog w = .ok (.value (.float .f64 x)) w := by
  rw [run_callFunc_extern (e := Extern.MathFloatBits.float64frombits) Tryz.func51 (by kernel_rfl) (by kernel_rfl) (by kernel_rfl) (by kernel_rfl)]
  rfl
theorem neq_self (x : Nat) : (FloatKind.f64.format.order x x != some .eq) = nan64 x := by
  rw [order_self]
  cases nan64 x <;> rfl
theorem rBits_ok (x : Nat) (w : World) : Calls Tryz.prog 34 #[.float .f64 x] w fun e w' => e = .returned (.int .u64 (canon x : Nat)) ∧ w = w' := by
  have h1 := call_bits x
  have h2 := neq_self x
  unfold canon
  cases hn : nan64 x with
  | true =>
    rw [hn] at h2
    rw [if_pos rfl]
    clear hn
    go_enter Tryz.func34, Tryz.ntmps34
    go_wp2
    go_ret
    exact ⟨rfl, rfl⟩
  | false =>
    rw [hn] at h2
    rw [if_neg (by decide)]
    clear hn
    go_enter Tryz.func34, Tryz.ntmps34
    go_wp2
    go_ret
    exact ⟨rfl, rfl⟩
theorem rFloat_ok (x : Nat) (w : World) : Calls Tryz.prog 23 #[.int .u64 (x : Int)] w fun e w' => e = .returned (.float .f64 x) ∧ w = w' := by
  have h1 := call_from x
  go_enter Tryz.func23, Tryz.ntmps23
  go_wp2
  go_ret
  exact ⟨rfl, rfl⟩
theorem rJoin_ok (x y : Nat) (w : World) : Calls Tryz.prog 7 #[.float .f64 x, .float .f64 y] w fun e w' => e = .returned (.complex .f64 x y) ∧ w = w' := by
  go_enter Tryz.func7, Tryz.ntmps7
  go_wp2
  go_ret
  exact ⟨rfl, rfl⟩
theorem rSplit_ok (x y : Nat) (w : World) : Calls Tryz.prog 13 #[.complex .f64 x y] w fun e w' => e = .returned (.tuple #[.float .f64 x, .float .f64 y]) ∧ w = w' := by
  go_enter Tryz.func13, Tryz.ntmps13
  go_wp2
  go_ret2
  exact ⟨rfl, rfl⟩
theorem rSame_ok (x y : Nat) (h : canon x = canon y) (w : World) : Calls Tryz.prog 38 #[.float .f64 x, .float .f64 y] w fun e w' => e = .returned (.bool true) ∧ w = w' := by
  have h1 := rBits_ok x
  have h2 := rBits_ok y
  rw [← h] at h2
  obtain ⟨c, HC⟩ : ∃ c, Hid (canon x = c) := ⟨_, Lib.hid rfl⟩
  rw [HC.out] at h1 h2
  have H1 := Lib.hid h1
  have H2 := Lib.hid h2
  clear h h1 h2
  go_enter Tryz.func38, Tryz.ntmps38
  go_wp2_with (first
    | ((with_reducible refine (H1.out _).mono ?_); rintro e w1 ⟨rfl, rfl⟩)
    | ((with_reducible refine (H2.out _).mono ?_); rintro e w1 ⟨rfl, rfl⟩))
  go_ret
  exact ⟨rfl, rfl⟩
theorem rSameC_ok (x y x' y' : Nat) (h : canon x = canon x') (h' : canon y = canon y') (w : World) : Calls Tryz.prog 15 #[.complex .f64 x y, .complex .f64 x' y'] w fun e w' => e = .returned (.bool true) ∧ w = w' := by
  have H1 := Lib.hid (rSame_ok x x' h)
  have H2 := Lib.hid (rSame_ok y y' h')
  clear h h'
  go_enter Tryz.func15, Tryz.ntmps15
  go_wp2_with (first
    | ((with_reducible refine (H1.out _).mono ?_); rintro e w1 ⟨rfl, rfl⟩)
    | ((with_reducible refine (H2.out _).mono ?_); rintro e w1 ⟨rfl, rfl⟩))
  go_ret
  exact ⟨rfl, rfl⟩
end Go.Proofs.YticnefkdkkjgcaaGreatDoor

/- typed.all of int64, typed.ToInts, of what holds whole numbers. -/
namespace Go.Proofs.YticnefkdkkjgcaaGreatDoor
open Go.RowKit

theorem infoI64 : (Tryz.prog.info? 2).map (fun i => (i.zero, i.size, i.bytes)) = some (some (.int .i64 0), E64.sz, 8) := by kernel_rfl
/-- what ToInts answers -/
def IntsBack (w : World) (ls : List Int) (E : Ending) (w' : World) : Prop := Keep nob w w' ∧ ∃ A c, E = .returned (.tuple #[.slice A ls.length c, .nilIface]) ∧ Sl E64 w' A c ls ∧ ∀ a, A = some a → w.heap.size ≤ a.block
set_option maxRecDepth 100000 in
set_option maxHeartbeats 1000000 in
theorem all_ints (ls : List Int) (hls : ∀ z ∈ ls, I64 z) (hn9 : ls.length ≤ 1000000000) (r : Raw) (Do : Nat → Prop) (w : World)
    (hck : ∀ W, Keep nob w W → Calls Tryz.prog 10 #[ER.val r] W fun E w' => E = .returned .nilIface ∧ Keep nob W w')
    (hel : ∀ W, Keep nob w W → Calls Tryz.prog 39 #[ER.val r, .bool true] W (ElsPost W Do (ls.map intW))) :
    Calls Tryz.prog 41 #[ER.val r, .func (.func 42) #[] #[]] w (IntsBack w ls) := by
  have HCK := Lib.hid hck
  have HEL := Lib.hid hel
  have HLS := Lib.hid hls
  obtain ⟨n, HN⟩ : ∃ n, Hid (ls.length = n) := ⟨_, Lib.hid rfl⟩
  rw [HN.out] at hn9
  have HE1 : Hid (∀ args w, (callFunc 42 args).run Tryz.prog w = .ok (.enter 42 args) w) := Lib.hid (fun args w => by go_simp)
  have HRN := Lib.hid (range_new w r 39)
  have HKA : Hid (Keep nob w (w.alloc (.cells (ER.cells r).toArray 39))) := Lib.hid ((Keep.refl _ _).alloc _)
  obtain ⟨x0, HX0⟩ : ∃ x0, Hid (w.alloc (.cells (ER.cells r).toArray 39) = x0) := ⟨_, Lib.hid rfl⟩
  obtain ⟨b0, HB0⟩ : ∃ b0, Hid (w.heap.size = b0) := ⟨_, Lib.hid rfl⟩
  rw [HX0.out, HB0.out] at HRN
  rw [HX0.out] at HKA
  have HC0 := Lib.hid (HCK.out x0 HKA.out)
  obtain ⟨rk, rn, rneg, rA, rL, rC, rbits, rext, rtext, rkA, rkL, rkC⟩ := r
  simp only [ER] at HC0 HEL ⊢
  have HX : Hid (w.alloc (.cells #[.int .i8 (rk : Int), .int .u64 (rn : Int), .bool rneg, .slice rA rL rC, .int .u64 (rbits : Int), .int .i8 rext, .string rtext, .slice rkA rkL rkC] 39) = x0) := HX0
  obtain ⟨a0, a1, a2, a3, a4, a5, a6, a7⟩ := cells_val HRN.out
  dsimp only at a0 a1 a2 a3 a4 a5 a6 a7
  clear HX0 hck hel hls
  go_enter Tryz.func41, Tryz.ntmps41
  go_upto_region 1 with (fail)
  rw [HX.out, HB0.out]
  go_upto_region 4 with (go_at_call 10; go_must (refine HC0.out.mono ?_); rintro E w1 ⟨rfl, hk1⟩; have HK1 := Lib.hid hk1; clear hk1)
  have HK01 := Lib.hid (HKA.out.then_ HK1.out)
  have HR1 := Lib.hid (range_keep0 HK1.out HRN.out)
  clear a0 a1 a2 a3 a4 a5 a6 a7
  obtain ⟨a0, a1, a2, a3, a4, a5, a6, a7⟩ := cells_val HR1.out
  dsimp only at a0 a1 a2 a3 a4 a5 a6 a7
  have HE0 := Lib.hid (HEL.out w1 HK01.out)
  go_wp2_with (go_at_call 39; go_must (refine HE0.out.mono ?_); rintro E w2 ⟨hk2, A2, c2, es, rfl, hs2, hl2, he2⟩; rw [List.length_map, HN.out]; have HK2 := Lib.hid (HK01.out.then_ hk2); have HS2 := Lib.hid hs2; have HE2 := Lib.hid he2; clear hk2 hs2 hl2 he2)
  have HNE : Hid (es.length = n) := Lib.hid (by rw [HE2.out.len, List.length_map, HN.out])
  have hle := HS2.out.le
  have hcap := HS2.out.cap
  rw [HNE.out] at hle
  obtain ⟨m, HM⟩ : ∃ m, Hid (w2.heap.size = m) := ⟨_, Lib.hid rfl⟩
  have HMW : Hid (w.heap.size ≤ m) := Lib.hid (by rw [← HM.out]; exact HK2.out.size)
  go_loopw [9, 29] (fun u9 u29 wr => ∃ (i c : Nat) (A : Option Addr), i ≤ n ∧ u29 = .int .i64 (i : Int) ∧ u9 = .slice A i c ∧ Hid (Ow E64 wr A c (ls.take i)) ∧ Hid (∀ a, A = some a → m ≤ a.block) ∧ Hid (Keep nob w2 wr)) (fun _ u29 _ => n - (intOf u29).toNat)
  case atStart => exact ⟨0, 0, none, Nat.zero_le _, rfl, rfl, Lib.hid (Ow.nil_ E64 _ none), Lib.hid (fun _ h => by cases h), Lib.hid (Keep.refl _ _)⟩
  case round =>
    obtain ⟨i, c, A, hi, rfl, rfl, HO, HA, HK⟩ := hrel
    rcases Nat.lt_or_ge i n with hlt | hge
    · have d1 : decide ((i : Int) < (n : Int)) = true := by rw [decide_eq_true_iff]; omega
      have q0 : (0 : Int) ≤ (i : Int) := by omega
      have q1 : (i : Int) < (n : Int) := by omega
      have j5 : IntKind.i64.wrap ((i : Int) + 1) = (i : Int) + 1 := by rw [IntWalk.i64_left, IntWalk.wrap64_in _ ⟨by omega, by omega⟩]
      have hil : i < es.length := by rw [HNE.out]; exact hlt
      have hvl : i < ls.length := by rw [HN.out]; exact hlt
      have hvl' : i < (ls.map intW).length := by rw [List.length_map]; exact hvl
      obtain ⟨bk, ok, rfl, hx⟩ := (HS2.out.keep HK.out (fun ⟨_, _, h⟩ => h)).elem (i := i) hil
      obtain ⟨e, HEE⟩ : ∃ e, Hid (es[i] = e) := ⟨_, Lib.hid rfl⟩
      obtain ⟨z, HZ⟩ : ∃ z, Hid (ls[i] = z) := ⟨_, Lib.hid rfl⟩
      rw [HEE.out] at hx
      have hx1 : wr.rangeAt bk (ok + i * 10) (EE.cells e) := hx
      obtain ⟨t1, t2, t3⟩ := HE2.out.get i hil hvl'
      rw [List.getElem_map, HEE.out, HZ.out] at t1 t3
      rw [HEE.out] at t2
      have hwr : e.wrong = false := t3.trans rfl
      have hz : I64 z := by rw [← HZ.out]; exact HLS.out _ (List.getElem_mem hvl)
      have HTK : Hid (ls.take (i + 1) = ls.take i ++ [z]) := Lib.hid (by rw [← HZ.out]; exact List.take_succ_eq_append_getElem hvl)
      have HNL : Hid ((ls.take i).length = i) := Lib.hid (by rw [List.length_take]; omega)
      have HRN2 := Lib.hid (rangeE_new wr e 94)
      have HKE : Hid (Keep nob wr (wr.alloc (.cells (EE.cells e).toArray 94))) := Lib.hid ((Keep.refl _ _).alloc _)
      have HTC := Lib.hid (toints1_ok z hz e _ (wr.alloc (.cells (EE.cells e).toArray 94)) (Tr.keep (HK.out.then_ HKE.out) (nobD _) _ _ t1))
      obtain ⟨w4, HW4⟩ : ∃ w4, Hid (wr.alloc (.cells (EE.cells e).toArray 94) = w4) := ⟨_, Lib.hid rfl⟩
      obtain ⟨b8, HB8⟩ : ∃ b8, Hid (wr.heap.size = b8) := ⟨_, Lib.hid rfl⟩
      rw [HW4.out, HB8.out] at HRN2
      rw [HW4.out] at HKE HTC
      clear hx t1 t3 hz
      obtain ⟨⟨sk, sn, sneg, sA, sL, sC, sbits, sext, stext, skA, skL, skC⟩, ex, ew⟩ := e
      dsimp only at t2 hwr
      subst t2 hwr
      obtain ⟨e0, e1, e2, e3, e4, e5, e6, e7, e8, e9⟩ := elm_val hx1
      simp only [Nat.add_zero] at e0 e1 e2 e3 e4 e5 e6 e7 e8 e9
      simp only [EE] at HTC
      have hfl := store_flt
      go_upto_region 11 with (fail)
      rw [show wr.alloc (.cells #[.int .i8 (sk : Int), .int .u64 (sn : Int), .bool sneg, .slice sA sL sC, .int .u64 (sbits : Int), .int .i8 sext, .string stext, .slice skA skL skC, .float .f64 0, .bool false] 94) = w4 from HW4.out, HB8.out]
      clear e0 e1 e2 e3 e4 e5 e6 e7 e8 e9
      obtain ⟨e0, e1, e2, e3, e4, e5, e6, e7, e8, e9⟩ := elm_val HRN2.out
      simp only [Nat.zero_add] at e0 e1 e2 e3 e4 e5 e6 e7 e8 e9
      have he1 := HE1.out
      go_upto_region 12 with ((with_reducible refine HTC.out.mono ?_); rintro E w5 ⟨rfl, hk5⟩; have HK5 := Lib.hid hk5; clear hk5)
      have HR5 := Lib.hid (range_keep0 HK5.out HRN2.out)
      clear e0 e1 e2 e3 e4 e5 e6 e7 e8 e9 he1
      obtain ⟨e0, e1, e2, e3, e4, e5, e6, e7, e8, e9⟩ := elm_val HR5.out
      simp only [Nat.zero_add] at e0 e1 e2 e3 e4 e5 e6 e7 e8 e9
      have HKF : Hid (Keep nob w5 (w5.alloc (.cells #[.int .i64 z] 2))) := Lib.hid ((Keep.refl _ _).alloc _)
      have HKT := Lib.hid ((((HK.out.then_ HKE.out).then_ HK5.out)).then_ HKF.out)
      have HOw := Lib.hid (HO.out.keep ((HKE.out.then_ HK5.out).then_ HKF.out) (fun ⟨_, _, h⟩ => h))
      have HSB : Hid (Sl E64 (w5.alloc (.cells #[.int .i64 z] 2)) (some ⟨w5.heap.size, 0, none⟩) 1 [z]) := Lib.hid (Ow.new_ E64 w5 _ _ 1 [z] (Nat.le_refl _) (by decide) rfl (fun j v hj => by simpa [El.flat_cons, El.flat_nil, E64] using hj)).sl
      go_wp2_with (at_builtin; refine wpList_append_ow E64 rfl _ _ 56 rfl 2 _ 8 Tryz.underlying56 infoI64 rfl A i c rfl (ls.take i) HNL.out HOw.out (some ⟨w5.heap.size, 0, none⟩) 1 1 rfl [z] rfl HSB.out (by omega) (by omega) ?_; intro A' c' w6 hap; have HAP := Lib.hid hap; clear hap)
      have hap := HAP.out.ow
      rw [← HTK.out] at hap
      have hzk := HKT.out.size
      have hmm := HM.out
      refine ⟨⟨i + 1, c', A', hlt, rfl, rfl, Lib.hid hap, Lib.hid (fun a ha => ?_), Lib.hid (HKT.out.trans HAP.out.keep (fun j hj ⟨a, ha, hb⟩ => by have := HA.out a ha; omega))⟩, by simp [intOf]; omega⟩
      rcases HAP.out.lies a ha with ⟨a0, h0, h1⟩ | ⟨h1, _⟩
      · have := HA.out a0 h0; omega
      · omega
    · obtain rfl : i = n := by omega
      have d1 : decide ((i : Int) < (i : Int)) = false := by rw [decide_eq_false_iff_not]; omega
      have htk : ls.take i = ls := List.take_of_length_le (by rw [HN.out]; exact Nat.le_refl _)
      rw [htk] at HO
      clear htk
      go_wp2_with (fail)
      go_ret2
      exact ⟨HK2.out.then_ HK.out, A, c, by rw [HN.out]; rfl, HO.out.sl, fun a ha => Nat.le_trans HMW.out (HA.out a ha)⟩
set_option maxRecDepth 100000 in
theorem toints_ok (ls : List Int) (hls : ∀ z ∈ ls, I64 z) (hn9 : ls.length ≤ 1000000000) (r : Raw) (Do : Nat → Prop) (w : World)
    (hck : ∀ W, Keep nob w W → Calls Tryz.prog 10 #[ER.val r] W fun E w' => E = .returned .nilIface ∧ Keep nob W w')
    (hel : ∀ W, Keep nob w W → Calls Tryz.prog 39 #[ER.val r, .bool true] W (ElsPost W Do (ls.map intW))) :
    Calls Tryz.prog 17 #[ER.val r] w (IntsBack w ls) := by
  have HRN := Lib.hid (range_new w r 39)
  have HKA : Hid (Keep nob w (w.alloc (.cells (ER.cells r).toArray 39))) := Lib.hid ((Keep.refl _ _).alloc _)
  obtain ⟨x0, HX0⟩ : ∃ x0, Hid (w.alloc (.cells (ER.cells r).toArray 39) = x0) := ⟨_, Lib.hid rfl⟩
  obtain ⟨b0, HB0⟩ : ∃ b0, Hid (w.heap.size = b0) := ⟨_, Lib.hid rfl⟩
  rw [HX0.out, HB0.out] at HRN
  rw [HX0.out] at HKA
  have HC := Lib.hid (all_ints ls hls hn9 r Do x0 (fun W hk => hck W (HKA.out.then_ hk)) (fun W hk => hel W (HKA.out.then_ hk)))
  obtain ⟨n, HN⟩ : ∃ n, Hid (ls.length = n) := ⟨_, Lib.hid rfl⟩
  obtain ⟨rk, rn, rneg, rA, rL, rC, rbits, rext, rtext, rkA, rkL, rkC⟩ := r
  simp only [ER] at HC ⊢
  have HX : Hid (w.alloc (.cells #[.int .i8 (rk : Int), .int .u64 (rn : Int), .bool rneg, .slice rA rL rC, .int .u64 (rbits : Int), .int .i8 rext, .string rtext, .slice rkA rkL rkC] 39) = x0) := HX0
  obtain ⟨a0, a1, a2, a3, a4, a5, a6, a7⟩ := cells_val HRN.out
  dsimp only at a0 a1 a2 a3 a4 a5 a6 a7
  clear HX0 hck hel hls
  go_enter Tryz.func17, Tryz.ntmps17
  go_upto_region 1 with (fail)
  rw [HX.out, HB0.out]
  go_wp2_with (go_at_call 41; go_must (refine HC.out.mono ?_); rintro E w1 ⟨hk1, A, c, rfl, hs1, hl1⟩; rw [HN.out]; have HK1 := Lib.hid hk1; have HS1 := Lib.hid hs1; have HL1 := Lib.hid hl1; clear hk1 hs1 hl1)
  go_ret2
  exact ⟨HKA.out.then_ HK1.out, A, c, by rw [HN.out]; rfl, HS1.out, fun a ha => Nat.le_trans HKA.out.size (HL1.out a ha)⟩
end Go.Proofs.YticnefkdkkjgcaaGreatDoor

/- typed.Plain of a typed array of whole numbers. -/
namespace Go.Proofs.YticnefkdkkjgcaaGreatDoor
open Go.RowKit

/-- a container's values while it grows; their trees lie in old blocks or in new ones -/
structure GrowV (wr : World) (b7 m kind : Nat) (Do : Nat → Prop) (A : Option Addr) (c : Nat) (rs : List Raw) (acc : List V) : Prop where
  ow : Ow ER wr A c rs
  at_ : ∀ a, A = some a → m ≤ a.block
  lt : ∀ a, A = some a → a.block < wr.heap.size
  tr : TrL wr (DelO m Do A) rs acc
  ce : wr.rangeAt b7 0 (ER.cells ⟨kind, 0, false, none, 0, 0, 0, 0, ⟨#[]⟩, A, rs.length, c⟩)
  th : wr.there b7 0 8
theorem GrowV.keep {wr w' : World} {b7 m kind : Nat} {Do : Nat → Prop} {A : Option Addr} {c : Nat} {rs : List Raw} {acc : List V} (h : GrowV wr b7 m kind Do A c rs acc) (k : Keep nob wr w') : GrowV w' b7 m kind Do A c rs acc :=
  ⟨h.ow.keep k (fun ⟨_, _, h⟩ => h), h.at_, fun a ha => Nat.lt_of_lt_of_le (h.lt a ha) k.size, TrL.keep k (fun _ _ h => h) _ _ h.tr, range_keepS k (fun h => h) h.ce, k.there h.th (fun h => h)⟩
theorem GrowV.push {w5 w6 : World} {b7 m kind : Nat} {Do Dv : Nat → Prop} {A A' : Option Addr} {c c' : Nat} {rs : List Raw} {acc : List V} {r : Raw} {v : V} (h : GrowV w5 b7 m kind Do A c rs acc) (hap : Appended ER w5 A (rs ++ [r]) A' c' w6) (h7 : b7 < m) (hm : m ≤ w5.heap.size)
    (h7o : ∀ j, Do j → j ≠ b7) (ht : Tr w5 Dv r v) (hD : ∀ j, j < w5.heap.size → Dv j → DelO m Do A j) : GrowV (w6.setCell ⟨b7, 7, none⟩ (.slice A' (rs.length + 1) c')) b7 m kind Do A' c' (rs ++ [r]) (acc ++ [v]) ∧ Keep (fun k => AtB A k ∨ k = b7) w5 (w6.setCell ⟨b7, 7, none⟩ (.slice A' (rs.length + 1) c')) := by
  have hA' : ∀ a, A' = some a → m ≤ a.block := fun a ha => by
    rcases hap.lies a ha with ⟨a0, h0, h1⟩ | ⟨h1, _⟩
    · have := h.at_ a0 h0; omega
    · omega
  have hk : Keep (· = b7) w6 (w6.setCell ⟨b7, 7, none⟩ (.slice A' (rs.length + 1) c')) := (Keep.refl (· = b7) w6).setCell (fun _ => rfl) _
  have h7A : ¬ AtB A b7 := fun ⟨a, ha, hb⟩ => by have := h.at_ a ha; omega
  have h7A' : ¬ AtB A' b7 := fun ⟨a, ha, hb⟩ => by have := hA' a ha; omega
  have hdel : ∀ j, j < w5.heap.size → DelO m Do A j → ¬ AtB A j ∧ DelO m Do A' j := fun j hj hd => by
    rcases hd with hd | hd
    · exact ⟨fun ⟨a, ha, hb⟩ => by have := h.at_ a ha; omega, .inl hd⟩
    · refine ⟨hd.2, .inr ⟨hd.1, fun ⟨a, ha, hb⟩ => ?_⟩⟩
      rcases hap.lies a ha with ⟨a0, h0, h1⟩ | ⟨h1, _⟩
      · exact hd.2 ⟨a0, h0, by omega⟩
      · omega
  have t1 : TrL w5 (fun j => ¬ AtB A j ∧ DelO m Do A' j) rs acc := TrL.mono hdel _ _ h.tr
  have t2 : Tr w5 (fun j => ¬ AtB A j ∧ DelO m Do A' j) r v := Tr.mono (fun j hj hd => hdel j hj (hD j hj hd)) _ _ ht
  have t3 : TrL w6 (fun j => DelO m Do A' j) (rs ++ [r]) (acc ++ [v]) := TrL.mono (fun _ _ hd => hd.2) _ _ (TrL.keep hap.keep (fun j hd => hd.1) _ _ (TrL.app t1 ⟨t2, trivial⟩))
  have hce : w6.rangeAt b7 0 (ER.cells ⟨kind, 0, false, none, 0, 0, 0, 0, ⟨#[]⟩, A, rs.length, c⟩) := range_keepS hap.keep h7A h.ce
  refine ⟨⟨hap.ow.keep hk (fun ⟨a, ha, hb⟩ => h7A' ⟨a, ha, hb⟩), hA', fun a ha => ?_, TrL.keep hk (fun j hd e => ?_) _ _ t3, ?_, ?_⟩, ?_⟩
  · rcases hap.lies a ha with ⟨a0, h0, h1⟩ | ⟨h1, h2⟩
    · have := h.lt a0 h0; have := hap.keep.size; have := hk.size; omega
    · have := hk.size; omega
  · rcases hd with hd | hd
    · exact h7o j hd.1 e
    · have := hd.1; omega
  · have := range_kids hce A' (rs.length + 1) c'
    rw [List.length_append, List.length_singleton]
    exact this
  · exact World.there_setCells (hap.keep.there h.th h7A) b7 7 [.slice A' (rs.length + 1) c']
  · exact (hap.keep.mono (fun _ _ h => .inl h)).trans hk (fun j _ e => .inr e)
/-- what Plain answers -/
def PlainPost (w : World) (ls : List Int) (E : Ending) (w' : World) : Prop := Keep nob w w' ∧ ∃ r, E = .returned (.tuple #[ER.val r, .nilIface]) ∧ Tr w' (fun k => w.heap.size ≤ k) r (intsV ls)
set_option maxRecDepth 100000 in
set_option maxHeartbeats 2000000 in
theorem plain_ok (ls : List Int) (hn9 : ls.length ≤ 1000000000) (r : Raw) (w : World)
    (hck : ∀ W, Keep nob w W → Calls Tryz.prog 10 #[ER.val r] W fun E w' => E = .returned .nilIface ∧ Keep nob W w')
    (hel : ∀ W, Keep nob w W → Calls Tryz.prog 39 #[ER.val r, .bool false] W (ElsPost W (fun _ => False) (ls.map intW))) :
    Calls Tryz.prog 16 #[ER.val r] w (PlainPost w ls) := by
  obtain ⟨n, HN⟩ : ∃ n, Hid (ls.length = n) := ⟨_, Lib.hid rfl⟩
  rw [HN.out] at hn9
  have HRN := Lib.hid (range_new w r 39)
  have HKA : Hid (Keep nob w (w.alloc (.cells (ER.cells r).toArray 39))) := Lib.hid ((Keep.refl _ _).alloc _)
  obtain ⟨x0, HX0⟩ : ∃ x0, Hid (w.alloc (.cells (ER.cells r).toArray 39) = x0) := ⟨_, Lib.hid rfl⟩
  obtain ⟨b0, HB0⟩ : ∃ b0, Hid (w.heap.size = b0) := ⟨_, Lib.hid rfl⟩
  have HZ0 : Hid (x0.heap.size = b0 + 1) := by unfold Hid; rw [← HX0.out, ← HB0.out]; simp
  rw [HX0.out, HB0.out] at HRN
  rw [HX0.out] at HKA
  obtain ⟨w0, b4, HW0, HB4, HK0, HT0, HL0⟩ := start x0
  have HKW := Lib.hid (HKA.out.then_ HK0.out)
  have HR0 := Lib.hid (range_keep0 HK0.out HRN.out)
  have HC0 := Lib.hid (hck w0 HKW.out)
  have HEL := Lib.hid hel
  obtain ⟨rk, rn, rneg, rA, rL, rC, rbits, rext, rtext, rkA, rkL, rkC⟩ := r
  simp only [ER] at HC0 HEL ⊢
  have HX : Hid (w.alloc (.cells #[.int .i8 (rk : Int), .int .u64 (rn : Int), .bool rneg, .slice rA rL rC, .int .u64 (rbits : Int), .int .i8 rext, .string rtext, .slice rkA rkL rkC] 39) = x0) := HX0
  obtain ⟨a0, a1, a2, a3, a4, a5, a6, a7⟩ := cells_val HR0.out
  dsimp only at a0 a1 a2 a3 a4 a5 a6 a7
  clear HX0 hck hel
  go_enter Tryz.func16, Tryz.ntmps16
  go_upto_region 1 with (fail)
  obtain rfl : b4 = b0 + 1 := by rw [← HB4.out, HZ0.out]
  rw [HX.out, HB0.out, HW0.out]
  go_upto_region 4 with (go_at_call 10; go_must (refine HC0.out.mono ?_); rintro E w1 ⟨rfl, hk1⟩; have HK1 := Lib.hid hk1; clear hk1)
  have HK01 := Lib.hid (HKW.out.then_ HK1.out)
  have HR1 := Lib.hid (range_keep0 HK1.out HR0.out)
  clear a0 a1 a2 a3 a4 a5 a6 a7
  obtain ⟨a0, a1, a2, a3, a4, a5, a6, a7⟩ := cells_val HR1.out
  dsimp only at a0 a1 a2 a3 a4 a5 a6 a7
  have HE0 := Lib.hid (HEL.out w1 HK01.out)
  go_upto_block 0 with (go_at_call 39; go_must (refine HE0.out.mono ?_); rintro E w2 ⟨hk2, A2, c2, es, rfl, hs2, -, he2⟩; rw [List.length_map, HN.out]; have HK12 := Lib.hid hk2; have HK2 := Lib.hid (HK01.out.then_ hk2); have HS2 := Lib.hid hs2; have HE2 := Lib.hid he2; clear hk2 hs2 he2)
  have HNE : Hid (es.length = n) := Lib.hid (by rw [HE2.out.len, List.length_map, HN.out])
  have hle := HS2.out.le
  have hcap := HS2.out.cap
  rw [HNE.out] at hle
  obtain ⟨w3, HW3⟩ : ∃ w3, Hid (w2.alloc (.cells #[.int .i8 7, .int .u64 0, .bool false, .slice none 0 0, .int .u64 0, .int .i8 0, .string ⟨#[]⟩, .slice none 0 0] 39) = w3) := ⟨_, Lib.hid rfl⟩
  obtain ⟨b7, HB7⟩ : ∃ b7, Hid (w2.heap.size = b7) := ⟨_, Lib.hid rfl⟩
  have HK3 : Hid (Keep nob w2 w3) := by unfold Hid; rw [← HW3.out]; exact (Keep.refl _ _).alloc _
  have HM7 : Hid (w3.heap.size = b7 + 1) := by unfold Hid; rw [← HW3.out, ← HB7.out]; simp
  obtain ⟨Do, HDo⟩ : ∃ Do : Nat → Prop, Hid ((fun j => w1.heap.size ≤ j ∧ j < b7) = Do) := ⟨_, Lib.hid rfl⟩
  have HGR : Hid (GrowV w3 b7 w3.heap.size 7 Do none 0 [] []) := by
    refine Lib.hid ⟨⟨Sl.nil_ ER w3 none (by decide), fun h => absurd h (by decide)⟩, fun _ ha => (by cases ha), fun _ ha => (by cases ha), trivial, ?_, ?_⟩
    · rw [← HW3.out, ← HB7.out]
      exact range_new w2 ⟨7, 0, false, none, 0, 0, 0, 0, ⟨#[]⟩, none, 0, 0⟩ 39
    · rw [← HW3.out, ← HB7.out]
      exact there_alloc_new w2 _ _ 8 (Nat.le_refl _)
  rw [HW3.out, HB7.out]
  go_wp2_with (fail)
  obtain ⟨m, HMM⟩ : ∃ m, Hid (w3.heap.size = m) := ⟨_, Lib.hid rfl⟩
  rw [HMM.out] at HGR HM7
  have hfl := store_flt
  have HLE2 : Hid (EL w2 Do es (ls.map intW)) := by
    refine Lib.hid (HE2.out.mono (fun j hj hd => ?_))
    rw [← HDo.out, ← HB7.out]
    rcases hd with hd | hd
    · exact hd.1.elim
    · exact ⟨hd, hj⟩
  go_loopw [28] (fun u28 wr => ∃ (i c : Nat) (A : Option Addr) (rs : List Raw), i ≤ n ∧ u28 = .int .i64 (i : Int) ∧ Hid (rs.length = i) ∧ Hid (GrowV wr b7 m 7 Do A c rs ((ls.map intW).take i)) ∧ Hid (Keep (· = b7) w3 wr)) (fun u28 _ => n - (intOf u28).toNat)
  case atStart => exact ⟨0, 0, none, [], Nat.zero_le _, rfl, Lib.hid rfl, HGR, Lib.hid (Keep.refl _ _)⟩
  case round =>
    obtain ⟨i, c, A, rs, hi, rfl, HRL, HGW, HK⟩ := hrel
    rcases Nat.lt_or_ge i n with hlt | hge
    · have d1 : decide ((i : Int) < (n : Int)) = true := by rw [decide_eq_true_iff]; omega
      have q0 : (0 : Int) ≤ (i : Int) := by omega
      have q1 : (i : Int) < (n : Int) := by omega
      have j5 : IntKind.i64.wrap ((i : Int) + 1) = (i : Int) + 1 := by rw [IntWalk.i64_left, IntWalk.wrap64_in _ ⟨by omega, by omega⟩]
      have hil : i < es.length := by rw [HNE.out]; exact hlt
      have hvl : i < ls.length := by rw [HN.out]; exact hlt
      have hvl' : i < (ls.map intW).length := by rw [List.length_map]; exact hvl
      obtain ⟨bk, ok, rfl, hx0⟩ := HS2.out.elem (i := i) hil
      have hb : bk < b7 := by rw [← HB7.out]; exact World.block_lt_of_cell? w2 _ (hx0 0 _ rfl)
      have hx := range_keepS HK.out (by omega : ¬ bk = b7) (HK3.out.range hx0 (fun h => h))
      obtain ⟨e, HEE⟩ : ∃ e, Hid (es[i] = e) := ⟨_, Lib.hid rfl⟩
      obtain ⟨z, HZ⟩ : ∃ z, Hid (ls[i] = z) := ⟨_, Lib.hid rfl⟩
      rw [HEE.out] at hx
      have hx1 : wr.rangeAt bk (ok + i * 10) (EE.cells e) := hx
      obtain ⟨t1, -, -⟩ := HLE2.out.get i hil hvl'
      rw [List.getElem_map, HEE.out, HZ.out] at t1
      have hk3 := t1.kd
      have HTE : Hid (Tr wr Do e.r (intW z)) := Lib.hid (Tr.keep HK.out (fun j hj e => by rw [← HDo.out] at hj; omega) _ _ (Tr.keep HK3.out (nobD _) _ _ t1))
      have HTK : Hid ((ls.map intW).take (i + 1) = (ls.map intW).take i ++ [intW z]) := Lib.hid (by rw [← HZ.out, List.take_succ_eq_append_getElem hvl', List.getElem_map])
      have HRN2 := Lib.hid (rangeE_new wr e 94)
      have HKE : Hid (Keep nob wr (wr.alloc (.cells (EE.cells e).toArray 94))) := Lib.hid ((Keep.refl _ _).alloc _)
      obtain ⟨w4, HW4⟩ : ∃ w4, Hid (wr.alloc (.cells (EE.cells e).toArray 94) = w4) := ⟨_, Lib.hid rfl⟩
      obtain ⟨b8, HB8⟩ : ∃ b8, Hid (wr.heap.size = b8) := ⟨_, Lib.hid rfl⟩
      rw [HW4.out, HB8.out] at HRN2
      rw [HW4.out] at HKE
      clear hx t1 hx0
      obtain ⟨⟨sk, sn, sneg, sA, sL, sC, sbits, sext, stext, skA, skL, skC⟩, ex, ew⟩ := e
      have hk3' : sk = 3 := hk3
      subst hk3'
      obtain ⟨e0, e1, e2, e3, e4, e5, e6, e7, e8, e9⟩ := elm_val hx1
      simp only [Nat.add_zero, Int.cast_ofNat_Int] at e0 e1 e2 e3 e4 e5 e6 e7 e8 e9
      obtain ⟨-, -, -, -, -, -, -, a7⟩ := cells_val HGW.out.ce
      rw [HRL.out] at a7
      clear hk3
      go_upto_region 11 with (fail)
      rw [show wr.alloc (.cells #[.int .i8 3, .int .u64 (sn : Int), .bool sneg, .slice sA sL sC, .int .u64 (sbits : Int), .int .i8 sext, .string stext, .slice skA skL skC, .float .f64 ex, .bool ew] 94) = w4 from HW4.out, HB8.out]
      clear e0 e1 e2 e3 e4 e5 e6 e7 e8 e9 a7
      obtain ⟨e0, e1, e2, e3, e4, e5, e6, e7, e8, e9⟩ := elm_val HRN2.out
      simp only [Nat.zero_add, Int.cast_ofNat_Int] at e0 e1 e2 e3 e4 e5 e6 e7 e8 e9
      have HG4 := Lib.hid (HGW.out.keep HKE.out)
      obtain ⟨-, -, -, -, -, -, -, a7⟩ := cells_val HG4.out.ce
      rw [HRL.out] at a7
      have HKF : Hid (Keep nob w4 (w4.alloc (.cells (ER.cells ⟨3, sn, sneg, sA, sL, sC, sbits, sext, stext, skA, skL, skC⟩).toArray 39))) := Lib.hid ((Keep.refl _ _).alloc _)
      have HG5 := Lib.hid (HG4.out.keep HKF.out)
      have HSL5 := Lib.hid (one_sl w4 ⟨3, sn, sneg, sA, sL, sC, sbits, sext, stext, skA, skL, skC⟩ 39)
      have HTF := Lib.hid (Tr.keep (HKE.out.then_ HKF.out) (nobD _) _ _ HTE.out)
      have HKT := Lib.hid (HKE.out.then_ HKF.out)
      go_wp2_with (at_builtin; refine wpList_append_ow ER rfl _ _ 37 rfl 39 _ 104 Tryz.underlying37 infoValue rfl A i c rfl rs HRL.out HG5.out.ow (some ⟨w4.heap.size, 0, none⟩) 1 1 rfl [_] rfl HSL5.out (by omega) (by omega) ?_; intro A' c' w6 hap; have HAP := Lib.hid hap; clear hap; have hth6 := HAP.out.keep.there HG5.out.th (fun ⟨a, ha, hb⟩ => by have h1 := HG5.out.at_ a ha; have h2 := HM7.out; omega); obtain ⟨-, -, -, -, -, -, -, v7, ⟨-, -, -, -, -, -, -, d7⟩, -, -, -, -, -, -, -, f7⟩ := eight hth6; clear hth6)
      have hz3 := HK.out.size
      have hz5 := HKT.out.size
      have hmm := HMM.out
      have hm7 := HM7.out
      obtain ⟨g7, k7⟩ := HG5.out.push HAP.out (by omega) (by omega) (fun j hj e => by rw [← HDo.out] at hj; omega) HTF.out (fun j _ hd => .inl ⟨hd, by rw [← HDo.out] at hd; omega⟩)
      have hAm := fun a ha => HG5.out.at_ a ha
      rw [HRL.out, ← HTK.out] at g7
      rw [HRL.out] at k7
      refine ⟨⟨i + 1, c', A', _, hlt, rfl, Lib.hid (by rw [List.length_append, HRL.out]; rfl), Lib.hid g7, Lib.hid ?_⟩, by simp [intOf]; omega⟩
      refine (HK.out.then_ (HKT.out.mono (fun _ _ h => h.elim))).trans k7 ?_
      rintro j h1 (⟨a, ha, hb⟩ | h)
      · have := hAm a ha; omega
      · exact h
    · obtain rfl : i = n := by omega
      have d1 : decide ((i : Int) < (i : Int)) = false := by rw [decide_eq_false_iff_not]; omega
      have htk : (ls.map intW).take i = ls.map intW := List.take_of_length_le (by rw [List.length_map, HN.out]; exact Nat.le_refl _)
      rw [htk] at HGW
      clear htk
      obtain ⟨a0, a1, a2, a3, a4, a5, a6, a7⟩ := cells_val HGW.out.ce
      rw [HRL.out] at a7
      have HTW : Hid (wr.there (b0 + 1) 0 8) := by
        have h1 := HL0.out
        have h2 := HK1.out.size
        have h3 := HB7.out
        have h4 := HK12.out.size
        exact Lib.hid (HK.out.there ((((HT0.out.keep' HK1.out).keep' HK12.out).keep' HK3.out)) (fun h => by omega))
      obtain ⟨v0, v1, v2, v3, v4, v5, v6, v7, ⟨c0, c1, c2', c3, c4, c5, c6, c7⟩, f0, f1, f2, f3, f4, f5, f6, f7⟩ := eight HTW.out
      go_wp2
      obtain ⟨w10, e10, r10, k10⟩ := put8 HTW.out ⟨7, 0, false, none, 0, 0, 0, 0, ⟨#[]⟩, A, i, c⟩ (.int .i8 7) (.int .u64 0) (.bool false) (.slice none 0 0) (.int .u64 0) (.int .i8 0) (.string ⟨#[]⟩) (.slice A i c) rfl
      rw [e10.out]
      have h1 := HL0.out
      have h2 := HK1.out.size
      have h3 := HB7.out
      have h4 := HK12.out.size
      have h5 := HK01.out.size
      have h6 := HM7.out
      have h7 := HMM.out
      have h8 := HB0.out
      have h9 := HK.out.size
      refine ret_vt rfl rfl rfl rfl r10 ⟨((HK2.out.then_ HK3.out).trans HK.out (fun k h1 h2 => by have := HK2.out.size; omega)).trans k10 (fun k h1 h2 => by omega), _, rfl, ?_⟩
      unfold intsV V.lis
      have hAm := fun a ha => HGW.out.at_ a ha
      refine ⟨rfl, rfl, rfl, rfl, rfl, rfl, ⟨rfl, Sl.nil_ EU _ none (Nat.zero_le _), fun h => absurd rfl h⟩, rs, HRL.out.symm, HGW.out.ow.sl.keep k10 (fun ⟨a, ha, hS⟩ => by have := hAm a ha; have hS' : a.block = b0 + 1 := hS; omega), fun hne => ?_, TrL.mono (fun j _ hj => ?_) _ _ (TrL.keep k10 (fun j hj e => ?_) _ _ HGW.out.tr)⟩
      · obtain ⟨b1, o1, hA, -⟩ := HGW.out.ow.sl.at_ hne
        exact ⟨_, hA, by have := hAm _ hA; dsimp only at this ⊢; omega⟩
      · rcases hj with hj | hj
        · have hj1 := hj.1
          rw [← HDo.out] at hj1
          omega
        · have := hj.1; omega
      · rcases hj with hj | hj
        · have hj1 := hj.1
          rw [← HDo.out] at hj1
          omega
        · have := hj.1; omega
end Go.Proofs.YticnefkdkkjgcaaGreatDoor

/- Typed arrays of whole numbers and their lists: what Ints, ToInts, Plain and Check answer of them. -/
namespace Go.Proofs.YticnefkdkkjgcaaGreatDoor
open Go.RowKit

section
variable {k : Nat} {small : Bool} {l : List Int} {m c : Nat} {A : Option Addr} {B : Nat} {sa : Nat → Addr} {w : World}
theorem ints_good (h1 : 1 ≤ k) (h8 : k ≤ 8) (g : GL B sa w) (hm : l.length = m) (h : Sl E64 w A c l) (hmm : m ≤ 1000000000) (hall : l.all (hasK k) = true) :
    Calls Tryz.prog 22 #[.slice A m c, .int .i8 (k : Int), .bool small] w fun E w' => Keep nob w w' ∧ ∃ r, E = .returned (.tuple #[ER.val r, .nilIface]) ∧ Tr w' (fun b => w.heap.size ≤ b) r (arrV (64 + iK small k) (encL (litK small k) (nK k) (l.map bits64))) :=
  (ints_ok k small h1 h8 l m c A B sa w g hm h hmm).mono fun _ _ h => by
    rcases h with ⟨_, h⟩ | ⟨h, _⟩
    · exact h
    · rw [hall] at h; cases h
theorem ints_bad (h1 : 1 ≤ k) (h8 : k ≤ 8) (g : GL B sa w) (hm : l.length = m) (h : Sl E64 w A c l) (hmm : m ≤ 1000000000) (hall : l.all (hasK k) = false) :
    Calls Tryz.prog 22 #[.slice A m c, .int .i8 (k : Int), .bool small] w fun E w' => Keep nob w w' ∧ ∃ ev path, E = .returned (.tuple #[ER.val Raw.zero, ev]) ∧ PErr sa w' (fun b => w.heap.size ≤ b) ev 4 0 path :=
  (ints_ok k small h1 h8 l m c A B sa w g hm h hmm).mono fun _ _ h => by
    rcases h with ⟨h, _⟩ | ⟨_, h⟩
    · rw [hall] at h; cases h
    · exact h
end
theorem i64_nat {z : Int} (h : I64 z) : z.natAbs < 18446744073709551616 := by unfold I64 at h; omega
theorem int_sm {z : Int} (h : I64 z) : Sm (intW z) ∧ TxV (intW z) ∧ depV (intW z) = 0 := by
  have h2 := numL_len_le (f := 2) (x := z.natAbs) (by have := i64_nat h; omega)
  unfold intW V.int
  refine ⟨⟨by omega, by simp, by decide, trivial⟩, ⟨by decide, trivial⟩, ?_⟩
  unfold depV
  rw [if_neg (by decide)]
theorem ints_sm {l : List Int} (h : ∀ z ∈ l, I64 z) (hl : l.length ≤ 1000000000) : Sm (intsV l) ∧ TxV (intsV l) ∧ depV (intsV l) ≤ 1 := by
  have hd : ∀ vs : List V, (∀ v ∈ vs, depV v = 0) → depL vs = 0 := fun vs => by
    induction vs with
    | nil => intro _; exact depL_nil
    | cons v vs ih => intro h; rw [depL_cons, h v (List.mem_cons_self), ih (fun x hx => h x (List.mem_cons_of_mem _ hx))]; rfl
  have hm : ∀ v ∈ l.map intW, ∃ z, I64 z ∧ v = intW z := fun v hv => by
    obtain ⟨z, hz, rfl⟩ := List.mem_map.1 hv
    exact ⟨z, h z hz, rfl⟩
  unfold intsV V.lis
  refine ⟨⟨by simp, by rw [List.length_map]; exact hl, by decide, (smL_iff _).2 (fun v hv => ?_)⟩, ⟨by decide, (txL_iff _).2 (fun v hv => ?_)⟩, ?_⟩
  · obtain ⟨z, hz, rfl⟩ := hm v hv; exact (int_sm hz).1
  · obtain ⟨z, hz, rfl⟩ := hm v hv; exact (int_sm hz).2.1
  · unfold depV
    rw [if_pos (by decide), hd _ (fun v hv => by obtain ⟨z, hz, rfl⟩ := hm v hv; exact (int_sm hz).2.2)]
    exact Nat.le_refl _
theorem arr_sm {tag : Nat} {b : List Nat} (hb : b.length ≤ 9000000000) : Sm (arrV tag b) ∧ TxV (arrV tag b) ∧ depV (arrV tag b) ≤ 1 := by
  unfold arrV V.byt
  refine ⟨⟨by simp, by simp, by decide, ⟨by simp, by simp, by decide, trivial⟩, trivial⟩, ⟨by decide, ⟨by rw [Bt_size]; omega, trivial⟩, trivial⟩, ?_⟩
  unfold depV
  rw [if_pos (by decide), depL_cons, depL_nil]
  unfold depV
  rw [if_neg (by decide)]
  decide
section
variable {r : Raw} {D : Nat → Prop} {B : Nat} {sa : Nat → Addr} {w : World}
theorem arr_check (tag : Nat) (b : List Nat) (h4 : 4 ≤ tag) (hb : b.length ≤ 9000000000) (g : GL B sa w) (ht : Tr w D r (arrV tag b)) (hD : ∀ j, D j → j < w.heap.size) :
    Calls Tryz.prog 10 #[ER.val r] w fun e w' => e = .returned .nilIface ∧ Keep nob w w' := by
  obtain ⟨h1, h2, h3⟩ := arr_sm (tag := tag) hb
  exact check_ok _ (arr_all tag b h4) h1 h2 (by omega) r D B sa w g ht hD
theorem ints_check (l : List Int) (hl : ∀ z ∈ l, I64 z) (hn : l.length ≤ 1000000000) (g : GL B sa w) (ht : Tr w D r (intsV l)) (hD : ∀ j, D j → j < w.heap.size) :
    Calls Tryz.prog 10 #[ER.val r] w fun e w' => e = .returned .nilIface ∧ Keep nob w w' := by
  obtain ⟨h1, h2, h3⟩ := ints_sm hl hn
  exact check_ok _ (ints_all l) h1 h2 (by omega) r D B sa w g ht hD
/-- a list of whole numbers as numbers -/
theorem list_back (l : List Int) (hl : ∀ z ∈ l, I64 z) (hn : l.length ≤ 1000000000) (g : GL B sa w) (ht : Tr w D r (intsV l)) (hD : ∀ j, D j → j < w.heap.size) : Calls Tryz.prog 17 #[ER.val r] w (IntsBack w l) :=
  toints_ok l hl hn r D w (fun W k => ints_check l hl hn (g.keep k (fun _ h => h.elim)) (Tr.keep k (nobD D) _ _ ht) (fun j hj => Nat.lt_of_lt_of_le (hD j hj) k.size))
    (fun W k => elements_list 0 false [] 0 0 ⟨#[]⟩ (l.map intW) (by rw [List.length_map]; exact hn) r D W (Tr.keep k (nobD D) _ _ ht) (fun j hj => Nat.lt_of_lt_of_le (hD j hj) k.size))
variable {k : Nat} {small : Bool} {l : List Int}
/-- the bytes of numbers that a kind has are these numbers -/
theorem arr_nums (h1 : 1 ≤ k) (h8 : k ≤ 8) (hl : ∀ z ∈ l, I64 z) (hall : l.all (hasK k) = true) : arrN k small l.length (encL (litK small k) (nK k) (l.map bits64)) = l := by
  unfold arrN
  refine dec_ints (litK small k) (sgK k) (nK k) (nK_pos k).1 (nK_pos k).2 l (fun z hz => ?_)
  rw [← hasK_N k h1 h8 z (hl z hz).1 (hl z hz).2]
  exact List.all_eq_true.1 hall z hz
theorem enc_len9 (k : Nat) (small : Bool) (l : List Int) (hn : l.length ≤ 1000000000) : (encL (litK small k) (nK k) (l.map bits64)).length = nK k * l.length ∧ nK k * l.length ≤ 8000000000 := by
  refine ⟨by rw [encL_len, List.length_map], Nat.le_trans (Nat.mul_le_mul (nK_pos k).2 hn) (by decide)⟩
theorem arr_elems (h1 : 1 ≤ k) (h8 : k ≤ 8) (hl : ∀ z ∈ l, I64 z) (hn : l.length ≤ 1000000000) (hall : l.all (hasK k) = true) (lists : Bool) (g : GL B sa w) (ht : Tr w D r (arrV (64 + iK small k) (encL (litK small k) (nK k) (l.map bits64)))) :
    Calls Tryz.prog 39 #[ER.val r, .bool lists] w (ElsPost w (fun _ => False) (l.map intW)) := by
  have h := elements_arr k small h1 h8 l.length _ lists (encL_8 _ _ _) (enc_len9 k small l hn).1 hn r D B sa w g ht
  rw [arr_nums h1 h8 hl hall] at h
  exact h
theorem arr_back (h1 : 1 ≤ k) (h8 : k ≤ 8) (hl : ∀ z ∈ l, I64 z) (hn : l.length ≤ 1000000000) (hall : l.all (hasK k) = true) (g : GL B sa w) (ht : Tr w D r (arrV (64 + iK small k) (encL (litK small k) (nK k) (l.map bits64)))) (hD : ∀ j, D j → j < w.heap.size) :
    Calls Tryz.prog 17 #[ER.val r] w (IntsBack w l) :=
  toints_ok l hl hn r (fun _ => False) w (fun W kk => arr_check _ _ (by omega) (by have := enc_len9 k small l hn; omega) (g.keep kk (fun _ h => h.elim)) (Tr.keep kk (nobD D) _ _ ht) (fun j hj => Nat.lt_of_lt_of_le (hD j hj) kk.size))
    (fun W kk => arr_elems h1 h8 hl hn hall true (g.keep kk (fun _ h => h.elim)) (Tr.keep kk (nobD D) _ _ ht))
theorem arr_plain (h1 : 1 ≤ k) (h8 : k ≤ 8) (hl : ∀ z ∈ l, I64 z) (hn : l.length ≤ 1000000000) (hall : l.all (hasK k) = true) (g : GL B sa w) (ht : Tr w D r (arrV (64 + iK small k) (encL (litK small k) (nK k) (l.map bits64)))) (hD : ∀ j, D j → j < w.heap.size) :
    Calls Tryz.prog 16 #[ER.val r] w (PlainPost w l) :=
  plain_ok l hn r w (fun W kk => arr_check _ _ (by omega) (by have := enc_len9 k small l hn; omega) (g.keep kk (fun _ h => h.elim)) (Tr.keep kk (nobD D) _ _ ht) (fun j hj => Nat.lt_of_lt_of_le (hD j hj) kk.size))
    (fun W kk => arr_elems h1 h8 hl hn hall false (g.keep kk (fun _ h => h.elim)) (Tr.keep kk (nobD D) _ _ ht))
end
/-- the bytes turned about element by element: the law's last loop -/
theorem turn_ok (k : Nat) (l : List Nat) (i : Nat) (h : i < nK k * l.length) : (encL false (nK k) l).getD i 0 = (encL (litK true k) (nK k) l).getD (i / nK k * nK k + nK k - 1 - i % nK k) 0 := by
  have hp := (nK_pos k).1
  cases hk : litK true k with
  | true => exact encL_turn (nK k) hp l i h
  | false =>
    have h1 : nK k = 1 := by unfold litK at hk; simp at hk; omega
    rw [h1, Nat.div_one, Nat.mul_one, Nat.mod_one]
    rfl
end Go.Proofs.YticnefkdkkjgcaaGreatDoor

/- Floats in memory; cruciblelaw25.floats; typed.Floats of 64 bits; typed.one of 64 bits. -/
namespace Go.Proofs.YticnefkdkkjgcaaGreatDoor
open Go.RowKit

/-- a float64 by its pattern -/
def EFl : El Nat where
  sz := 1
  pos := by decide
  cells := fun x => [.float .f64 x]
  len := fun _ => rfl
  one := fun x v h => by simp at h; subst h; rfl
  val := fun x => .float .f64 x
/-- a complex number by its patterns -/
def ECx : El (Nat × Nat) where
  sz := 1
  pos := by decide
  cells := fun z => [.complex .f64 z.1 z.2]
  len := fun _ => rfl
  one := fun x v h => by simp at h; subst h; rfl
  val := fun z => .complex .f64 z.1 z.2
theorem infoF64 : (Tryz.prog.info? 29).map (fun i => (i.zero, i.size, i.bytes)) = some (some (.float .f64 0), EFl.sz, 8) := by kernel_rfl
theorem infoC128 : (Tryz.prog.info? 27).map (fun i => (i.zero, i.size, i.bytes)) = some (some (.complex .f64 0 0), ECx.sz, 16) := by kernel_rfl
theorem slf_cell {w : World} {b o c i x : Nat} {xs : List Nat} (h : Sl EFl w (some ⟨b, o, none⟩) c xs) (hi : i < xs.length) (hx : xs.getD i 0 = x) : w.cell? ⟨b, o + i, none⟩ = some (.float .f64 x) := by
  obtain ⟨b1, o1, e1, hr⟩ := h.elem (i := i) hi
  simp only [Option.some.injEq, Addr.mk.injEq, and_true] at e1
  obtain ⟨rfl, rfl⟩ := e1
  have h1 := hr 0 _ rfl
  simp only [EFl, Nat.add_zero, Nat.mul_one] at h1
  rw [h1, show xs[i] = x by rw [← hx, List.getD_eq_getElem?_getD, List.getElem?_eq_getElem hi]; rfl]
theorem slc_cell {w : World} {b o c i : Nat} {z : Nat × Nat} {xs : List (Nat × Nat)} (h : Sl ECx w (some ⟨b, o, none⟩) c xs) (hi : i < xs.length) (hx : xs.getD i (0, 0) = z) : w.cell? ⟨b, o + i, none⟩ = some (.complex .f64 z.1 z.2) := by
  obtain ⟨b1, o1, e1, hr⟩ := h.elem (i := i) hi
  simp only [Option.some.injEq, Addr.mk.injEq, and_true] at e1
  obtain ⟨rfl, rfl⟩ := e1
  have h1 := hr 0 _ rfl
  simp only [ECx, Nat.add_zero, Nat.mul_one] at h1
  rw [h1, show xs[i] = z by rw [← hx, List.getD_eq_getElem?_getD, List.getElem?_eq_getElem hi]; rfl]
theorem getD_take {α : Type} {l : List α} {i : Nat} {d x : α} (h : i < l.length) (hx : l.getD i d = x) : l.take (i + 1) = l.take i ++ [x] := by
  rw [List.take_succ_eq_append_getElem h]
  rw [List.getD_eq_getElem?_getD, List.getElem?_eq_getElem h, Option.getD_some] at hx
  rw [hx]
theorem one_new {α : Type} (E : El α) (w : World) (x : α) (v : Value) (T : TypeId) (hv : E.cells x = [v]) (hs : E.sz = 1) : Sl E (w.alloc (.cells #[v] T)) (some ⟨w.heap.size, 0, none⟩) 1 [x] :=
  (Ow.new_ E w _ T 1 [x] (Nat.le_refl _) (by decide) (by rw [hs]; rfl) (fun j u hj => by simpa [El.flat_cons, El.flat_nil, hv] using hj)).sl
/-- a new slice that reads as a list -/
def NewSl {α : Type} (E : El α) (w : World) (ls : List α) (A : Option Addr) (c : Nat) (w' : World) : Prop := Sl E w' A c ls ∧ ∀ a, A = some a → w.heap.size ≤ a.block
set_option maxRecDepth 100000 in
set_option maxHeartbeats 1000000 in
theorem floats25_ok (l : List Nat) (n c0 : Nat) (A0 : Option Addr) (w : World) (hm : l.length = n) (hn9 : n ≤ 1000000000) (h : Sl E64u w A0 c0 l) :
    Calls Tryz.prog 6 #[.slice A0 n c0] w fun E w' => Keep nob w w' ∧ ∃ A c, E = .returned (.slice A n c) ∧ NewSl EFl w l A c w' := by
  have hle := h.le
  have hcap := h.cap
  rw [hm] at hle
  have HSL := Lib.hid h
  have HN := Lib.hid hm
  have HFL := Lib.hid (fun (x : Nat) (W : World) => rFloat_ok x W)
  clear h hm
  go_enter Tryz.func6, Tryz.ntmps6
  go_wp2_with (fail)
  go_loopw [3, 4] (fun u3 u4 wr => ∃ (i c : Nat) (A : Option Addr), i ≤ n ∧ u4 = .int .i64 (i : Int) ∧ u3 = .slice A i c ∧ Hid (Ow EFl wr A c (l.take i)) ∧ Hid (∀ a, A = some a → w.heap.size ≤ a.block) ∧ Hid (Keep nob w wr)) (fun _ u4 _ => n - (intOf u4).toNat)
  case atStart => exact ⟨0, 0, none, Nat.zero_le _, rfl, rfl, Lib.hid (Ow.nil_ EFl _ none), Lib.hid (fun _ h => by cases h), Lib.hid (Keep.refl _ _)⟩
  case round =>
    obtain ⟨i, c, A, hi, rfl, rfl, HO, HA, HK⟩ := hrel
    rcases Nat.lt_or_ge i n with hlt | hge
    · have d1 : decide ((i : Int) < (n : Int)) = true := by rw [decide_eq_true_iff]; omega
      have q0 : (0 : Int) ≤ (i : Int) := by omega
      have q1 : (i : Int) < (n : Int) := by omega
      have j5 : IntKind.i64.wrap ((i : Int) + 1) = (i : Int) + 1 := by rw [IntWalk.i64_left, IntWalk.wrap64_in _ ⟨by omega, by omega⟩]
      obtain ⟨x, HX⟩ : ∃ x, Hid (l.getD i 0 = x) := ⟨_, Lib.hid rfl⟩
      have hil : i < l.length := by rw [HN.out]; exact hlt
      have hln : l ≠ [] := fun e => by rw [e] at hil; simp at hil
      obtain ⟨ba, oa, rfl, -⟩ := HSL.out.at_ hln
      have hcx := slu_cell (HSL.out.keep HK.out (fun ⟨_, _, h⟩ => h)) hil HX.out
      have HTK := Lib.hid (getD_take hil HX.out)
      have HNL : Hid ((l.take i).length = i) := Lib.hid (by rw [List.length_take]; omega)
      have HF := Lib.hid (HFL.out x wr)
      have HKF : Hid (Keep nob wr (wr.alloc (.cells #[.float .f64 x] 29))) := Lib.hid ((Keep.refl _ _).alloc _)
      have HKT := Lib.hid (HK.out.then_ HKF.out)
      have HOw := Lib.hid (HO.out.keep HKF.out (fun ⟨_, _, h⟩ => h))
      have HSB := Lib.hid (one_new EFl wr x (.float .f64 x) 29 rfl rfl)
      clear hln hil
      go_wp2_with (first
        | (go_at_call 23; go_must (refine HF.out.mono ?_); rintro E w2 ⟨rfl, rfl⟩)
        | (at_builtin; refine wpList_append_ow EFl rfl _ _ 24 rfl 29 _ 8 Tryz.underlying24 infoF64 rfl A i c rfl (l.take i) HNL.out HOw.out (some ⟨wr.heap.size, 0, none⟩) 1 1 rfl [x] rfl HSB.out (by omega) (by omega) ?_; intro A' c' w6 hap; have HAP := Lib.hid hap; clear hap))
      have hap := HAP.out.ow
      rw [← HTK.out] at hap
      have hzk := HKT.out.size
      refine ⟨⟨i + 1, c', A', hlt, rfl, rfl, Lib.hid hap, Lib.hid (fun a ha => ?_), Lib.hid (HKT.out.trans HAP.out.keep (fun j hj ⟨a, ha, hb⟩ => by have := HA.out a ha; omega))⟩, by simp [intOf]; omega⟩
      rcases HAP.out.lies a ha with ⟨a0, h0, h1⟩ | ⟨h1, _⟩
      · have := HA.out a0 h0; omega
      · omega
    · obtain rfl : i = n := by omega
      have d1 : decide ((i : Int) < (i : Int)) = false := by rw [decide_eq_false_iff_not]; omega
      have htk : l.take i = l := List.take_of_length_le (by rw [HN.out]; exact Nat.le_refl _)
      rw [htk] at HO
      clear htk
      go_wp2_with (fail)
      go_ret
      exact ⟨HK.out, A, c, rfl, HO.out.sl, HA.out⟩
theorem size_11 (w : World) : Calls Tryz.prog 68 #[.int .i8 11] w fun e w' => e = .returned (.int .i64 8) ∧ w = w' := by
  have h : bits .andNot .i8 11 64 = 11 := by decide
  go_enter Tryz.func68, Tryz.ntmps68
  go_wp2
  go_ret
  exact ⟨rfl, rfl⟩
theorem size_75 (w : World) : Calls Tryz.prog 68 #[.int .i8 75] w fun e w' => e = .returned (.int .i64 8) ∧ w = w' := by
  have h : bits .andNot .i8 75 64 = 11 := by decide
  go_enter Tryz.func68, Tryz.ntmps68
  go_wp2
  go_ret
  exact ⟨rfl, rfl⟩
def iF (small : Bool) : Nat := if small then 22 else 18
/-- floats as a typed array -/
def floV (small : Bool) (l : List Nat) : V := arrV (64 + iF small) (encL small 8 (l.map canon))
theorem arrayF_ok (small : Bool) (l : List Nat) (m c : Nat) (A : Option Addr) (B : Nat) (sa : Nat → Addr) (w : World) (g : GL B sa w) (hm : l.length = m) (h : Sl E64u w A c l) (hmm : m ≤ 1000000000) :
    Calls Tryz.prog 36 #[.int .i8 11, .bool small, .slice A m c] w (ArrPost w (64 + iF small) (encL small 8 l)) := by
  cases small with
  | false => exact array_big 11 11 8 18 m c l A B sa w g hm h size_11 (by decide) (by decide) hmm rfl (by decide) (by decide) rfl (by decide)
  | true => exact array_lit 11 75 8 22 m c l A B sa w g hm h size_11 (by decide) (by decide) hmm (by decide) (by decide) (by decide) (by decide) rfl (by decide)
/-- what Floats answers -/
def FloatsPost (w : World) (small : Bool) (l : List Nat) (E : Ending) (w' : World) : Prop := Keep nob w w' ∧ ∃ r, E = .returned (.tuple #[ER.val r, .nilIface]) ∧ Tr w' (fun b => w.heap.size ≤ b) r (floV small l)
set_option maxRecDepth 100000 in
set_option maxHeartbeats 1000000 in
theorem tfloats_ok (small : Bool) (l : List Nat) (m c : Nat) (A : Option Addr) (B : Nat) (sa : Nat → Addr) (w : World) (g : GL B sa w) (hm : l.length = m) (h : Sl EFl w A c l) (hmm : m ≤ 1000000000) :
    Calls Tryz.prog 11 #[.slice A m c, .int .i8 11, .bool small] w (FloatsPost w small l) := by
  obtain ⟨w0, b4, HW0, HB4, HK0, HT0, HL0⟩ := start w
  have HG := Lib.hid (g.keep HK0.out (fun _ h => h.elim))
  have HLN := Lib.hid hm
  have HSL := Lib.hid (h.keep HK0.out (fun ⟨_, _, h⟩ => h))
  have hcap := h.cap
  have hle := h.le
  rw [hm] at hle
  have HBT := Lib.hid (fun (x : Nat) (W : World) => rBits_ok x W)
  have HAR := Lib.hid (fun (W : World) (hk : Keep nob w0 W) (A1 : Option Addr) (hs : Sl E64u W A1 m (l.map canon)) => arrayF_ok small (l.map canon) m m A1 B sa W (HG.out.keep hk (fun _ h => h.elim)) (by rw [List.length_map, hm]) hs hmm)
  obtain ⟨b5, HB5⟩ : ∃ b5, Hid (w0.heap.size = b5) := ⟨_, Lib.hid rfl⟩
  clear g hm h
  go_enter Tryz.func11, Tryz.ntmps11
  go_upto_region 1 with (fail)
  rw [HW0.out, HB4.out]
  go_wp2_with (at_make; refine wpList_make_E E64u rfl _ _ 22 rfl 32 _ 8 Tryz.underlying22 infoU64 m m _ _ rfl rfl rfl rfl (Nat.le_refl _) (by omega) (by omega) ?_; intro w1 HW1)
  rw [HB5.out]
  go_loopw [27] (fun u27 wr => ∃ i : Nat, i ≤ m ∧ u27 = .int .i64 (i : Int) ∧ Hid (Ow E64u wr (some ⟨b5, 0, none⟩) m ((l.map canon).take i ++ List.replicate (m - i) 0)) ∧ Hid (Keep nob w0 wr)) (fun u27 _ => m - (intOf u27).toNat)
  case atStart =>
    refine ⟨0, Nat.zero_le _, rfl, ?_, ?_⟩
    · refine Lib.hid ?_
      rw [HW1.out, ← HB5.out]
      exact ow_made E64u w0 _ _ 0 rfl m m (Nat.le_refl _) (by omega)
    · refine Lib.hid ?_
      rw [HW1.out]
      exact (Keep.refl _ _).alloc _
  case round =>
    obtain ⟨i, hi, rfl, HO, HK⟩ := hrel
    rcases Nat.lt_or_ge i m with hlt | hge
    · obtain ⟨z, HZ⟩ : ∃ z, Hid (l.getD i 0 = z) := ⟨_, Lib.hid rfl⟩
      obtain ⟨u, HU⟩ : ∃ u, Hid (canon z = u) := ⟨_, Lib.hid rfl⟩
      have hln : l ≠ [] := fun e => by have := HLN.out; rw [e] at this; simp at this; omega
      obtain ⟨ba, oa, rfl, -⟩ := HSL.out.at_ hln
      have hcx := slf_cell (HSL.out.keep HK.out (fun ⟨_, _, h⟩ => h)) (by rw [HLN.out]; exact hlt) HZ.out
      have q0 : (0 : Int) ≤ (i : Int) := by omega
      have q1 : (i : Int) < (m : Int) := by omega
      have d1 : decide ((i : Int) < (m : Int)) = true := by rw [decide_eq_true_iff]; omega
      have j5 : IntKind.i64.wrap ((i : Int) + 1) = (i : Int) + 1 := by rw [IntWalk.i64_left, IntWalk.wrap64_in _ ⟨by omega, by omega⟩]
      have HS := Lib.hid (HBT.out z wr)
      rw [HU.out] at HS
      have hgu : (l.map canon).getD i 0 = u := by
        have h3 := HZ.out
        rw [List.getD_eq_getElem?_getD, List.getElem?_eq_getElem (by rw [HLN.out]; exact hlt)] at h3
        rw [List.getD_eq_getElem?_getD, List.getElem?_map, List.getElem?_eq_getElem (by rw [HLN.out]; exact hlt), ← HU.out, ← h3]
        rfl
      have hll : ((l.map canon).take i ++ List.replicate (m - i) 0).length = m := by rw [List.length_append, List.length_take, List.length_map, List.length_replicate, HLN.out]; omega
      have HPUT := Lib.hid (HO.out.put (i := i) (by rw [hll]; exact hlt) u)
      rw [fill_set (l.map canon) i m (by rw [List.length_map, HLN.out]) hlt u hgu] at HPUT
      have HPE : Hid (wr.setCells b5 (0 + i * E64u.sz) (E64u.cells u) = wr.setCell ⟨b5, i, none⟩ (.int .u64 (u : Int))) := by
        unfold Hid
        simp [E64u, World.setCells]
      rw [HPE.out] at HPUT
      have hcs : ∃ v, wr.cell? ⟨b5, i, none⟩ = some v ∧ wr.frozen? ⟨b5, i, none⟩ = false := by
        obtain ⟨b', o', e', ht⟩ := HO.out.room (by omega)
        simp only [Option.some.injEq, Addr.mk.injEq, and_true] at e'
        obtain ⟨rfl, rfl⟩ := e'
        obtain ⟨t1, t2⟩ := ht i (by simp only [E64u]; omega)
        rw [Nat.zero_add] at t1 t2
        exact ⟨_, (Option.isSome_iff_exists.1 t1).choose_spec, t2⟩
      obtain ⟨v0, hv0, hf0⟩ := hcs
      have HKP : Hid (Keep nob w0 (wr.setCell ⟨b5, i, none⟩ (.int .u64 (u : Int)))) := Lib.hid (HK.out.setCell (fun h => by have := HB5.out; dsimp only at h; omega) _)
      clear hgu hll hln
      go_wp2_with (go_at_call 34; go_must (refine HS.out.mono ?_); rintro E w2 ⟨rfl, rfl⟩)
      exact ⟨⟨i + 1, hlt, rfl, HPUT, HKP⟩, by simp [intOf]; omega⟩
    · obtain rfl : i = m := by omega
      have d1 : decide ((i : Int) < (i : Int)) = false := by rw [decide_eq_false_iff_not]; omega
      have hl1 : (l.map canon).take i ++ List.replicate (i - i) 0 = l.map canon := by rw [Nat.sub_self, List.replicate_zero, List.append_nil, List.take_of_length_le (by rw [List.length_map, HLN.out]; exact Nat.le_refl _)]
      rw [hl1] at HO
      have HA := Lib.hid (HAR.out wr HK.out _ HO.out.sl)
      clear hl1
      go_wp2_with (go_at_call 36; go_must (refine HA.out.mono ?_); rintro E w3 ⟨hk3, r, rfl, ht3⟩; have HK3 := Lib.hid hk3; have HT3 := Lib.hid ht3; clear hk3 ht3; unfold ER; obtain ⟨v0, v1, v2, v3, v4, v5, v6, v7, ⟨c0, c1, c2, c3, c4, c5, c6, c7⟩, f0, f1, f2, f3, f4, f5, f6, f7⟩ := eight ((HT0.out.keep' HK.out).keep' HK3.out))
      obtain ⟨w10, e10, r10, k10⟩ := put8 ((HT0.out.keep' HK.out).keep' HK3.out) r (.int .i8 (r.kind : Int)) (.int .u64 (r.n : Int)) (.bool r.neg) (.slice r.mA r.mL r.mC) (.int .u64 (r.bits : Int)) (.int .i8 r.ext) (.string r.text) (.slice r.kA r.kL r.kC) rfl
      rw [e10.out]
      have hz0 := HK.out.size
      have hz3 := HK3.out.size
      have hl0 := HL0.out
      refine ret_vt rfl rfl rfl rfl r10 ⟨((HK0.out.then_ HK.out).then_ HK3.out).trans k10 (fun k h1 h2 => by omega), r, rfl, ?_⟩
      exact Tr.mono (fun b _ hb => by omega) _ _ (Tr.keep k10 (fun b hb e => by omega) _ _ HT3.out)
def fel (x : Nat) : Elm := ⟨Raw.zero, x, false⟩
set_option maxRecDepth 100000 in
set_option maxHeartbeats 1000000 in
theorem oneF_ok (small : Bool) (x : Nat) (w : World) :
    Calls Tryz.prog 71 #[.int .i8 (if small then 75 else 11), .int .u64 (x : Int)] w fun E w' => Keep nob w w' ∧ E = .returned (EE.val (fel x)) := by
  obtain ⟨w0, b4, HW0, HB4, HK0, HT0, HL0⟩ := start10 w
  have HF := Lib.hid (rFloat_ok x w0)
  have hb : bits .andNot .i8 (if small then 75 else 11) 64 = 11 := by cases small <;> decide
  have hfl := store_flt
  obtain ⟨e, HE⟩ : ∃ e : Int, Hid ((if small = true then (75 : Int) else 11) = e) := ⟨_, Lib.hid rfl⟩
  rw [HE.out] at hb ⊢
  obtain ⟨v0, v1, v2, v3, v4, v5, v6, v7, v8, v9, ⟨d0, d1, d2, d3, d4, d5, d6, d7, d8, d9⟩, f0, f1, f2, f3, f4, f5, f6, f7, f8, f9⟩ := ten HT0.out
  go_enter Tryz.func71, Tryz.ntmps71
  go_upto_region 1 with (fail)
  rw [HW0.out, HB4.out]
  go_wp2_with (go_at_call 23; go_must (refine HF.out.mono ?_); rintro E w1 ⟨rfl, rfl⟩)
  obtain ⟨w3, e3, r3, k3⟩ := put10 HT0.out (fel x) (.int .i8 0) (.int .u64 0) (.bool false) (.slice none 0 0) (.int .u64 0) (.int .i8 0) (.string ⟨#[]⟩) (.slice none 0 0) (.float .f64 x) (.bool false) rfl
  rw [e3.out]
  have hl0 := HL0.out
  exact ret_e rfl rfl rfl r3 ⟨HK0.out.trans k3 (fun k h1 h2 => by omega), rfl⟩
end Go.Proofs.YticnefkdkkjgcaaGreatDoor

/- typed.elements of a typed array of floats of 64 bits; typed.ToFloats of it. Printed by mkxd. -/
namespace Go.Proofs.YticnefkdkkjgcaaGreatDoor
open Go.RowKit

/-- what elements answers of floats -/
def ElsF (w : World) (xs : List Nat) (E : Ending) (w' : World) : Prop := Keep nob w w' ∧ ∃ A c, E = .returned (.tuple #[.slice A xs.length c, .bool true]) ∧ Sl EE w' A c (xs.map fel) ∧ ∀ a, A = some a → w.heap.size ≤ a.block

set_option maxRecDepth 100000 in
set_option maxHeartbeats 1000000 in
theorem elementsF_big (e n i0 cnt : Nat) (b : List Nat) (lists : Bool) (hi : i0 < 23) (hk : kdL.getD i0 0 = e) (he0 : e ≠ 0) (hn : 0 < n) (hn8 : n ≤ 8) (hb8 : B8 b) (hcnt : b.length = n * cnt) (hc9 : cnt ≤ 1000000000)
    (hsz : ∀ w, Calls Tryz.prog 68 #[.int .i8 (e : Int)] w fun E w' => E = .returned (.int .i64 (n : Int)) ∧ w = w')
    (hand : bits .and .i8 (e : Int) 64 = 0)
    (hone : ∀ (x : Nat) (W : World), x < 256 ^ n → Calls Tryz.prog 71 #[.int .i8 (e : Int), .int .u64 (x : Int)] W fun E w' => Keep nob W w' ∧ E = .returned (EE.val (fel x)))
    (r : Raw) (D : Nat → Prop) (B : Nat) (sa : Nat → Addr) (w : World) (gl : GL B sa w) (ht : Tr w D r (arrV (64 + i0) b)) :
    Calls Tryz.prog 39 #[ER.val r, .bool lists] w (ElsF w (decL false n cnt b)) := by
  have hbl9 : b.length ≤ 9000000000 := by rw [hcnt]; exact Nat.le_trans (Nat.mul_le_mul hn8 hc9) (by decide)
  have HFM := Lib.hid (fun (W : World) (hk' : Keep nob w W) => form_ok e n i0 b hi hk he0 hn hn8 (by rw [hcnt]; exact Nat.mul_mod_right n cnt) hbl9 hsz r D B sa W (gl.keep hk' (fun _ h => h.elim)) (Tr.keep hk' (nobD D) _ _ ht))
  have HSZ := Lib.hid hsz
  have HON := Lib.hid hone
  have HRN := Lib.hid (range_new w r 39)
  have HKA : Hid (Keep nob w (w.alloc (.cells (ER.cells r).toArray 39))) := Lib.hid ((Keep.refl _ _).alloc _)
  obtain ⟨x0, HX0⟩ : ∃ x0, Hid (w.alloc (.cells (ER.cells r).toArray 39) = x0) := ⟨_, Lib.hid rfl⟩
  obtain ⟨b0, HB0⟩ : ∃ b0, Hid (w.heap.size = b0) := ⟨_, Lib.hid rfl⟩
  have HZ0 : Hid (x0.heap.size = b0 + 1) := by unfold Hid; rw [← HX0.out, ← HB0.out]; simp
  rw [HX0.out, HB0.out] at HRN
  rw [HX0.out] at HKA
  obtain ⟨-, -, h1, -, -, -, -, -⟩ := arr_open ht
  obtain ⟨rk, rn, rneg, rA, rL, rC, rbits, rext, rtext, rkA, rkL, rkC⟩ := r
  dsimp only at h1
  subst h1
  simp only [ER, Int.cast_ofNat_Int] at HFM ⊢
  have HX : Hid (w.alloc (.cells #[.int .i8 9, .int .u64 (rn : Int), .bool rneg, .slice rA rL rC, .int .u64 (rbits : Int), .int .i8 rext, .string rtext, .slice rkA rkL rkC] 39) = x0) := HX0
  obtain ⟨a0, a1, a2, a3, a4, a5, a6, a7⟩ := cells_val HRN.out
  simp only [Int.cast_ofNat_Int] at a0 a7
  have HF0 := Lib.hid (HFM.out x0 HKA.out)
  obtain ⟨T, HT⟩ : ∃ T, Hid (Bt b = T) := ⟨_, Lib.hid rfl⟩
  rw [HT.out] at HF0
  have HTL : Hid (T.size = n * cnt) := Lib.hid (by rw [← HT.out, Bt_size, hcnt])
  have HTB : Hid (bl T = b) := Lib.hid (by rw [← HT.out, bl_Bt hb8])
  obtain ⟨n1, HN1⟩ : ∃ n1 : Nat, Hid (n - 1 = n1) := ⟨_, Lib.hid rfl⟩
  have in1 : IntKind.i64.wrap ((n : Int) - 1) = (n1 : Int) := by rw [← HN1.out, IntWalk.i64_left, IntWalk.wrap64_in _ ⟨by omega, by omega⟩]; omega
  obtain ⟨all, HALL⟩ : ∃ all, Hid (decL false n cnt b = all) := ⟨_, Lib.hid rfl⟩
  have HLEN : Hid (all.length = cnt) := Lib.hid (by rw [← HALL.out, decL_len])
  rw [HALL.out]
  clear HX0 ht hsz hone hi hk he0 hcnt hbl9 hb8 gl
  go_enter Tryz.func39, Tryz.ntmps39
  go_upto_region 1 with (fail)
  rw [HX.out, HB0.out]
  go_wp2_with (first
    | (go_at_call 70; go_must (refine HF0.out.mono ?_); rintro E y1 ⟨rfl, hk1⟩; have HK1 := Lib.hid hk1; clear hk1)
    | (go_at_call 68; go_must (refine (HSZ.out _).mono ?_); rintro E y2 ⟨rfl, rfl⟩))
  go_loopw [6, 10] (fun u6 u10 wr => ∃ (i c rem : Nat) (A : Option Addr) (s : ByteArray) (vs : List Nat), i + rem = cnt ∧ u6 = .slice A i c ∧ u10 = .string s ∧ Hid (s.size = n * rem) ∧ Hid (vs.length = i) ∧ Hid (vs ++ decL false n rem (bl s) = all) ∧ Hid (Ow EE wr A c (vs.map fel) ∧ ∀ a, A = some a → x0.heap.size ≤ a.block) ∧ Hid (Keep nob x0 wr)) (fun _ u10 _ => szV u10)
  case atStart => exact ⟨0, 0, cnt, none, T, [], by omega, rfl, rfl, HTL, Lib.hid rfl, Lib.hid (by rw [HTB.out, List.nil_append]; exact HALL.out), Lib.hid ⟨Ow.nil_ EE _ none, fun _ h => by cases h⟩, HK1⟩
  case round =>
    obtain ⟨i, c, rem, A, s, vs, hir, rfl, rfl, HS, HEL, HF, HGW, HK⟩ := hrel
    rcases Nat.eq_zero_or_pos rem with hr0 | hr0
    · subst hr0
      have hs0 : decide ((s.size : Int) > 0) = false := by rw [HS.out, Nat.mul_zero]; decide
      have hs0' : decide (0 < s.size) = false := by rw [HS.out, Nat.mul_zero]; decide
      have HV : Hid (vs = all) := by
        refine Lib.hid ?_
        rw [← HF.out, decL, List.append_nil]
      rw [HV.out] at HGW
      go_wp2_with (fail)
      go_ret2
      refine ⟨HKA.out.then_ HK.out, A, c, by rw [HLEN.out, show i = cnt by omega]; rfl, HGW.out.1.sl, fun a ha => ?_⟩
      have := HGW.out.2 a ha; have := HZ0.out; have := HB0.out; omega
    · obtain ⟨q, rfl⟩ : ∃ q, rem = q + 1 := ⟨rem - 1, by omega⟩
      have hsn : s.size = n * q + n := by rw [HS.out, Nat.mul_succ]
      have hs0 : decide ((s.size : Int) > 0) = true := by rw [decide_eq_true_iff]; omega
      have hs1 : n ≤ s.size := by omega
      have hs9 : s.size ≤ 9000000000 := by
        have h2 : n * q ≤ 8 * 1000000000 := Nat.mul_le_mul hn8 (by omega)
        omega
      have HSN := Lib.hid hsn
      clear hsn
      obtain ⟨ch, HCH⟩ : ∃ ch, Hid ((bl s).take n = ch) := ⟨_, Lib.hid rfl⟩
      have HCL : Hid (ch.length = n) := Lib.hid (by rw [← HCH.out, List.length_take, bl_len]; omega)
      have HCB : Hid (B8 ch) := Lib.hid (fun y hy => bl_lt s y (List.mem_of_mem_take (by rw [HCH.out]; exact hy)))
      go_wp2_with (fail)
      go_loop [13, 61] (fun u13 u61 => ∃ (j x : Nat), j ≤ n ∧ u61 = .int .i64 (j : Int) ∧ u13 = .int .u64 (x : Int) ∧ Hid (beN ((ordB false ch).take j) = x)) (fun _ u61 => n - (intOf u61).toNat)
      case atStart => exact ⟨0, 0, Nat.zero_le _, rfl, rfl, Lib.hid rfl⟩
      case round =>
        obtain ⟨j, x, hj, rfl, rfl, HBE⟩ := hrel
        rcases Nat.lt_or_ge j n with hjl | hjg
        · obtain ⟨d, HD⟩ : ∃ d, Hid (n - 1 - j = d) := ⟨_, Lib.hid rfl⟩
          have hd8 : d < n := by rw [← HD.out]; omega
          have in2 : IntKind.i64.wrap ((n1 : Int) - (j : Int)) = (d : Int) := by rw [← HD.out, ← HN1.out, IntWalk.i64_left, IntWalk.wrap64_in _ ⟨by omega, by omega⟩]; omega
          have hlt : j < s.size := by omega
          obtain ⟨y, HY⟩ : ∃ y, Hid ((s[j]'hlt).toNat = y) := ⟨_, Lib.hid rfl⟩
          have hy : (s[j]'hlt).toNat = y := HY.out
          have hy8 : y < 256 := by rw [← hy]; exact UInt8.toNat_lt _
          have hx8 : x < 256 ^ j := by
            have hob : B8 (ordB false ch) := HCB.out
            have h := beN_fold ((ordB false ch).take j) 0 (fun z hz => hob z (List.mem_of_mem_take hz))
            rw [List.length_take, ordB_len, HCL.out, Nat.min_eq_left hj, Nat.zero_add, Nat.one_mul] at h
            rw [← HBE.out]
            exact h
          have hx7 : x < 256 ^ 7 := Nat.lt_of_lt_of_le hx8 (Nat.pow_le_pow_right (by decide) (by omega))
          have HBE2 : Hid (beN ((ordB false ch).take (j + 1)) = x * 256 + y) := by
            refine Lib.hid ?_
            rw [num_round false ch j (by rw [HCL.out]; exact hjl), HBE.out, HCL.out]
            congr 1
            have h2 : shiftB (!false) n j = j := rfl
            rw [h2, ← HCH.out, List.getD_eq_getElem?_getD, List.getElem?_take, if_pos (by omega), bl_gets s j hlt, hy]
            rfl
          obtain ⟨xx, HXX⟩ : ∃ xx, Hid (x * 256 = xx) := ⟨_, Lib.hid rfl⟩
          obtain ⟨xy, HXY⟩ : ∃ xy, Hid (x * 256 + y = xy) := ⟨_, Lib.hid rfl⟩
          rw [HXY.out] at HBE2
          have i2 : IntKind.u64.wrap ((x : Int) * 256) = (xx : Int) := by have := HXX.out; rw [IntKind.wrap_u64]; omega
          have i3 : IntKind.u64.wrap (y : Int) = (y : Int) := by rw [IntKind.wrap_u64]; omega
          have i4 : bits .or .u64 (xx : Int) (y : Int) = (xy : Int) := by
            have h1 := u64_or_nat xx y (by have := HXX.out; omega) (by omega)
            have h2 : xx ||| y = xy := by
              have := Nat.two_pow_add_eq_or_of_lt (i := 8) hy8 x
              rw [← HXX.out, ← HXY.out, Nat.mul_comm x 256, show (256 : Nat) = 2 ^ 8 by decide, ← this]
            rw [h2] at h1
            exact h1
          have d1 : decide ((j : Int) < (n : Int)) = true := by rw [decide_eq_true_iff]; omega
          have q0 : (0 : Int) ≤ (j : Int) := by omega
          have q1 : (j : Int) < (s.size : Int) := by omega
          have j1 : IntKind.i64.wrap ((j : Int) + 1) = (j : Int) + 1 := by rw [IntWalk.i64_left, IntWalk.wrap64_in _ ⟨by omega, by omega⟩]
          have hxn : x < 72057594037927936 := hx7
          have HXN := Lib.hid hxn
          clear hx8 hx7 hxn
          go_wp2_with (fail)
          exact ⟨⟨j + 1, xy, hjl, rfl, rfl, HBE2⟩, by simp [intOf]; omega⟩
        · obtain rfl : j = n := by omega
          have d1 : decide ((j : Int) < (j : Int)) = false := by rw [decide_eq_false_iff_not]; omega
          have HXB : Hid (x < 256 ^ j ∧ numB false ch = x) := by
            have hnf := num_full false ch
            rw [HCL.out, HBE.out] at hnf
            refine Lib.hid ⟨?_, hnf.symm⟩
            have hob : B8 (ordB false ch) := HCB.out
            have h := beN_fold ((ordB false ch).take j) 0 (fun z hz => hob z (List.mem_of_mem_take hz))
            rw [List.length_take, ordB_len, HCL.out, Nat.min_self, Nat.zero_add, Nat.one_mul] at h
            rw [← HBE.out]
            exact h
          have HO1 := Lib.hid (HON.out x wr HXB.out.1)
          have HF2 : Hid ((vs ++ [x]) ++ decL false j q (bl (s.extract j s.size)) = all) := by
            refine Lib.hid ?_
            rw [← HF.out, decL, HCH.out, HXB.out.2, bl_extract, List.take_of_length_le (by rw [bl_len]; exact Nat.le_refl _), List.append_assoc]
            rfl
          have HS2 : Hid ((s.extract j s.size).size = j * q) := by
            refine Lib.hid ?_
            rw [ByteArray.size_extract, Nat.min_self, HSN.out]
            omega
          have HMW : Hid (x0.heap.size ≤ wr.heap.size) := Lib.hid HK.out.size
          have hi9 : i + 1 ≤ 1000000000 := by omega
          have HNL : Hid ((vs.map fel).length = i) := Lib.hid (by rw [List.length_map, HEL.out])
          go_wp2_with (first
            | (go_at_call 71; go_must (refine HO1.out.mono ?_); rintro E w3 ⟨hk3, rfl⟩; have HK3 := Lib.hid hk3; clear hk3; simp only [EE, fel, Raw.zero]; have HSL5 := Lib.hid (one_slE w3 (fel x) 94); have HK5 : Hid (Keep nob w3 (w3.alloc (.cells (EE.cells (fel x)).toArray 94))) := Lib.hid ((Keep.refl _ _).alloc _); have HG5 := Lib.hid (HGW.out.1.keep (HK3.out.then_ HK5.out) (fun ⟨_, _, h⟩ => h)))
            | (at_builtin; refine wpList_append_ow EE rfl _ _ 90 rfl 94 _ 120 Tryz.underlying90 infoElem rfl A i c rfl (vs.map fel) HNL.out HG5.out (some ⟨w3.heap.size, 0, none⟩) 1 1 rfl [_] rfl HSL5.out (by omega) (by omega) ?_; intro A' c' w6 hap; have HAP := Lib.hid hap; clear hap))
          have hz3 := HK3.out.size
          have hz5 := HK5.out.size
          have hmw := HMW.out
          have hzk := HK.out.size
          have hpush : Ow EE w6 A' c' ((vs ++ [x]).map fel) := by rw [List.map_append]; exact HAP.out.ow
          have hkept : Keep nob x0 w6 := ((HK.out.then_ HK3.out).then_ HK5.out).trans HAP.out.keep (fun j hj ⟨a, ha, hb⟩ => by have := HGW.out.2 a ha; omega)
          have hnew : ∀ a, A' = some a → x0.heap.size ≤ a.block := fun a ha => by
            rcases HAP.out.lies a ha with ⟨a0, h0, h1⟩ | ⟨h1, _⟩
            · have := HGW.out.2 a0 h0; omega
            · rw [h1]
              simp
              omega
          refine ⟨⟨i + 1, c', q, A', s.extract j s.size, _, by omega, rfl, ?_, HS2, Lib.hid (by rw [List.length_append, HEL.out]; rfl), HF2, Lib.hid ⟨hpush, hnew⟩, Lib.hid hkept⟩, ?_⟩
          · rfl
          · show (s.extract j s.size).size < s.size
            rw [HS2.out, HSN.out]
            omega

set_option maxRecDepth 100000 in
set_option maxHeartbeats 1000000 in
theorem elementsF_lit (e n i0 cnt : Nat) (b : List Nat) (lists : Bool) (hi : i0 < 23) (hk : kdL.getD i0 0 = e) (he0 : e ≠ 0) (hn : 0 < n) (hn8 : n ≤ 8) (hb8 : B8 b) (hcnt : b.length = n * cnt) (hc9 : cnt ≤ 1000000000)
    (hsz : ∀ w, Calls Tryz.prog 68 #[.int .i8 (e : Int)] w fun E w' => E = .returned (.int .i64 (n : Int)) ∧ w = w')
    (hand : bits .and .i8 (e : Int) 64 = 64)
    (hone : ∀ (x : Nat) (W : World), x < 256 ^ n → Calls Tryz.prog 71 #[.int .i8 (e : Int), .int .u64 (x : Int)] W fun E w' => Keep nob W w' ∧ E = .returned (EE.val (fel x)))
    (r : Raw) (D : Nat → Prop) (B : Nat) (sa : Nat → Addr) (w : World) (gl : GL B sa w) (ht : Tr w D r (arrV (64 + i0) b)) :
    Calls Tryz.prog 39 #[ER.val r, .bool lists] w (ElsF w (decL true n cnt b)) := by
  have hbl9 : b.length ≤ 9000000000 := by rw [hcnt]; exact Nat.le_trans (Nat.mul_le_mul hn8 hc9) (by decide)
  have HFM := Lib.hid (fun (W : World) (hk' : Keep nob w W) => form_ok e n i0 b hi hk he0 hn hn8 (by rw [hcnt]; exact Nat.mul_mod_right n cnt) hbl9 hsz r D B sa W (gl.keep hk' (fun _ h => h.elim)) (Tr.keep hk' (nobD D) _ _ ht))
  have HSZ := Lib.hid hsz
  have HON := Lib.hid hone
  have HRN := Lib.hid (range_new w r 39)
  have HKA : Hid (Keep nob w (w.alloc (.cells (ER.cells r).toArray 39))) := Lib.hid ((Keep.refl _ _).alloc _)
  obtain ⟨x0, HX0⟩ : ∃ x0, Hid (w.alloc (.cells (ER.cells r).toArray 39) = x0) := ⟨_, Lib.hid rfl⟩
  obtain ⟨b0, HB0⟩ : ∃ b0, Hid (w.heap.size = b0) := ⟨_, Lib.hid rfl⟩
  have HZ0 : Hid (x0.heap.size = b0 + 1) := by unfold Hid; rw [← HX0.out, ← HB0.out]; simp
  rw [HX0.out, HB0.out] at HRN
  rw [HX0.out] at HKA
  obtain ⟨-, -, h1, -, -, -, -, -⟩ := arr_open ht
  obtain ⟨rk, rn, rneg, rA, rL, rC, rbits, rext, rtext, rkA, rkL, rkC⟩ := r
  dsimp only at h1
  subst h1
  simp only [ER, Int.cast_ofNat_Int] at HFM ⊢
  have HX : Hid (w.alloc (.cells #[.int .i8 9, .int .u64 (rn : Int), .bool rneg, .slice rA rL rC, .int .u64 (rbits : Int), .int .i8 rext, .string rtext, .slice rkA rkL rkC] 39) = x0) := HX0
  obtain ⟨a0, a1, a2, a3, a4, a5, a6, a7⟩ := cells_val HRN.out
  simp only [Int.cast_ofNat_Int] at a0 a7
  have HF0 := Lib.hid (HFM.out x0 HKA.out)
  obtain ⟨T, HT⟩ : ∃ T, Hid (Bt b = T) := ⟨_, Lib.hid rfl⟩
  rw [HT.out] at HF0
  have HTL : Hid (T.size = n * cnt) := Lib.hid (by rw [← HT.out, Bt_size, hcnt])
  have HTB : Hid (bl T = b) := Lib.hid (by rw [← HT.out, bl_Bt hb8])
  obtain ⟨n1, HN1⟩ : ∃ n1 : Nat, Hid (n - 1 = n1) := ⟨_, Lib.hid rfl⟩
  have in1 : IntKind.i64.wrap ((n : Int) - 1) = (n1 : Int) := by rw [← HN1.out, IntWalk.i64_left, IntWalk.wrap64_in _ ⟨by omega, by omega⟩]; omega
  obtain ⟨all, HALL⟩ : ∃ all, Hid (decL true n cnt b = all) := ⟨_, Lib.hid rfl⟩
  have HLEN : Hid (all.length = cnt) := Lib.hid (by rw [← HALL.out, decL_len])
  rw [HALL.out]
  clear HX0 ht hsz hone hi hk he0 hcnt hbl9 hb8 gl
  go_enter Tryz.func39, Tryz.ntmps39
  go_upto_region 1 with (fail)
  rw [HX.out, HB0.out]
  go_wp2_with (first
    | (go_at_call 70; go_must (refine HF0.out.mono ?_); rintro E y1 ⟨rfl, hk1⟩; have HK1 := Lib.hid hk1; clear hk1)
    | (go_at_call 68; go_must (refine (HSZ.out _).mono ?_); rintro E y2 ⟨rfl, rfl⟩))
  go_loopw [6, 10] (fun u6 u10 wr => ∃ (i c rem : Nat) (A : Option Addr) (s : ByteArray) (vs : List Nat), i + rem = cnt ∧ u6 = .slice A i c ∧ u10 = .string s ∧ Hid (s.size = n * rem) ∧ Hid (vs.length = i) ∧ Hid (vs ++ decL true n rem (bl s) = all) ∧ Hid (Ow EE wr A c (vs.map fel) ∧ ∀ a, A = some a → x0.heap.size ≤ a.block) ∧ Hid (Keep nob x0 wr)) (fun _ u10 _ => szV u10)
  case atStart => exact ⟨0, 0, cnt, none, T, [], by omega, rfl, rfl, HTL, Lib.hid rfl, Lib.hid (by rw [HTB.out, List.nil_append]; exact HALL.out), Lib.hid ⟨Ow.nil_ EE _ none, fun _ h => by cases h⟩, HK1⟩
  case round =>
    obtain ⟨i, c, rem, A, s, vs, hir, rfl, rfl, HS, HEL, HF, HGW, HK⟩ := hrel
    rcases Nat.eq_zero_or_pos rem with hr0 | hr0
    · subst hr0
      have hs0 : decide ((s.size : Int) > 0) = false := by rw [HS.out, Nat.mul_zero]; decide
      have hs0' : decide (0 < s.size) = false := by rw [HS.out, Nat.mul_zero]; decide
      have HV : Hid (vs = all) := by
        refine Lib.hid ?_
        rw [← HF.out, decL, List.append_nil]
      rw [HV.out] at HGW
      go_wp2_with (fail)
      go_ret2
      refine ⟨HKA.out.then_ HK.out, A, c, by rw [HLEN.out, show i = cnt by omega]; rfl, HGW.out.1.sl, fun a ha => ?_⟩
      have := HGW.out.2 a ha; have := HZ0.out; have := HB0.out; omega
    · obtain ⟨q, rfl⟩ : ∃ q, rem = q + 1 := ⟨rem - 1, by omega⟩
      have hsn : s.size = n * q + n := by rw [HS.out, Nat.mul_succ]
      have hs0 : decide ((s.size : Int) > 0) = true := by rw [decide_eq_true_iff]; omega
      have hs1 : n ≤ s.size := by omega
      have hs9 : s.size ≤ 9000000000 := by
        have h2 : n * q ≤ 8 * 1000000000 := Nat.mul_le_mul hn8 (by omega)
        omega
      have HSN := Lib.hid hsn
      clear hsn
      obtain ⟨ch, HCH⟩ : ∃ ch, Hid ((bl s).take n = ch) := ⟨_, Lib.hid rfl⟩
      have HCL : Hid (ch.length = n) := Lib.hid (by rw [← HCH.out, List.length_take, bl_len]; omega)
      have HCB : Hid (B8 ch) := Lib.hid (fun y hy => bl_lt s y (List.mem_of_mem_take (by rw [HCH.out]; exact hy)))
      go_wp2_with (fail)
      go_loop [13, 61] (fun u13 u61 => ∃ (j x : Nat), j ≤ n ∧ u61 = .int .i64 (j : Int) ∧ u13 = .int .u64 (x : Int) ∧ Hid (beN ((ordB true ch).take j) = x)) (fun _ u61 => n - (intOf u61).toNat)
      case atStart => exact ⟨0, 0, Nat.zero_le _, rfl, rfl, Lib.hid rfl⟩
      case round =>
        obtain ⟨j, x, hj, rfl, rfl, HBE⟩ := hrel
        rcases Nat.lt_or_ge j n with hjl | hjg
        · obtain ⟨d, HD⟩ : ∃ d, Hid (n - 1 - j = d) := ⟨_, Lib.hid rfl⟩
          have hd8 : d < n := by rw [← HD.out]; omega
          have in2 : IntKind.i64.wrap ((n1 : Int) - (j : Int)) = (d : Int) := by rw [← HD.out, ← HN1.out, IntWalk.i64_left, IntWalk.wrap64_in _ ⟨by omega, by omega⟩]; omega
          have hlt : d < s.size := by omega
          obtain ⟨y, HY⟩ : ∃ y, Hid ((s[d]'hlt).toNat = y) := ⟨_, Lib.hid rfl⟩
          have hy : (s[d]'hlt).toNat = y := HY.out
          have hy8 : y < 256 := by rw [← hy]; exact UInt8.toNat_lt _
          have hx8 : x < 256 ^ j := by
            have hob : B8 (ordB true ch) := fun z hz => HCB.out z (List.mem_reverse.1 hz)
            have h := beN_fold ((ordB true ch).take j) 0 (fun z hz => hob z (List.mem_of_mem_take hz))
            rw [List.length_take, ordB_len, HCL.out, Nat.min_eq_left hj, Nat.zero_add, Nat.one_mul] at h
            rw [← HBE.out]
            exact h
          have hx7 : x < 256 ^ 7 := Nat.lt_of_lt_of_le hx8 (Nat.pow_le_pow_right (by decide) (by omega))
          have HBE2 : Hid (beN ((ordB true ch).take (j + 1)) = x * 256 + y) := by
            refine Lib.hid ?_
            rw [num_round true ch j (by rw [HCL.out]; exact hjl), HBE.out, HCL.out]
            congr 1
            have h2 : shiftB (!true) n j = d := HD.out
            rw [h2, ← HCH.out, List.getD_eq_getElem?_getD, List.getElem?_take, if_pos (by omega), bl_gets s d hlt, hy]
            rfl
          obtain ⟨xx, HXX⟩ : ∃ xx, Hid (x * 256 = xx) := ⟨_, Lib.hid rfl⟩
          obtain ⟨xy, HXY⟩ : ∃ xy, Hid (x * 256 + y = xy) := ⟨_, Lib.hid rfl⟩
          rw [HXY.out] at HBE2
          have i2 : IntKind.u64.wrap ((x : Int) * 256) = (xx : Int) := by have := HXX.out; rw [IntKind.wrap_u64]; omega
          have i3 : IntKind.u64.wrap (y : Int) = (y : Int) := by rw [IntKind.wrap_u64]; omega
          have i4 : bits .or .u64 (xx : Int) (y : Int) = (xy : Int) := by
            have h1 := u64_or_nat xx y (by have := HXX.out; omega) (by omega)
            have h2 : xx ||| y = xy := by
              have := Nat.two_pow_add_eq_or_of_lt (i := 8) hy8 x
              rw [← HXX.out, ← HXY.out, Nat.mul_comm x 256, show (256 : Nat) = 2 ^ 8 by decide, ← this]
            rw [h2] at h1
            exact h1
          have d1 : decide ((j : Int) < (n : Int)) = true := by rw [decide_eq_true_iff]; omega
          have q0 : (0 : Int) ≤ (d : Int) := by omega
          have q1 : (d : Int) < (s.size : Int) := by omega
          have j1 : IntKind.i64.wrap ((j : Int) + 1) = (j : Int) + 1 := by rw [IntWalk.i64_left, IntWalk.wrap64_in _ ⟨by omega, by omega⟩]
          have hxn : x < 72057594037927936 := hx7
          have HXN := Lib.hid hxn
          clear hx8 hx7 hxn
          go_wp2_with (fail)
          exact ⟨⟨j + 1, xy, hjl, rfl, rfl, HBE2⟩, by simp [intOf]; omega⟩
        · obtain rfl : j = n := by omega
          have d1 : decide ((j : Int) < (j : Int)) = false := by rw [decide_eq_false_iff_not]; omega
          have HXB : Hid (x < 256 ^ j ∧ numB true ch = x) := by
            have hnf := num_full true ch
            rw [HCL.out, HBE.out] at hnf
            refine Lib.hid ⟨?_, hnf.symm⟩
            have hob : B8 (ordB true ch) := fun z hz => HCB.out z (List.mem_reverse.1 hz)
            have h := beN_fold ((ordB true ch).take j) 0 (fun z hz => hob z (List.mem_of_mem_take hz))
            rw [List.length_take, ordB_len, HCL.out, Nat.min_self, Nat.zero_add, Nat.one_mul] at h
            rw [← HBE.out]
            exact h
          have HO1 := Lib.hid (HON.out x wr HXB.out.1)
          have HF2 : Hid ((vs ++ [x]) ++ decL true j q (bl (s.extract j s.size)) = all) := by
            refine Lib.hid ?_
            rw [← HF.out, decL, HCH.out, HXB.out.2, bl_extract, List.take_of_length_le (by rw [bl_len]; exact Nat.le_refl _), List.append_assoc]
            rfl
          have HS2 : Hid ((s.extract j s.size).size = j * q) := by
            refine Lib.hid ?_
            rw [ByteArray.size_extract, Nat.min_self, HSN.out]
            omega
          have HMW : Hid (x0.heap.size ≤ wr.heap.size) := Lib.hid HK.out.size
          have hi9 : i + 1 ≤ 1000000000 := by omega
          have HNL : Hid ((vs.map fel).length = i) := Lib.hid (by rw [List.length_map, HEL.out])
          go_wp2_with (first
            | (go_at_call 71; go_must (refine HO1.out.mono ?_); rintro E w3 ⟨hk3, rfl⟩; have HK3 := Lib.hid hk3; clear hk3; simp only [EE, fel, Raw.zero]; have HSL5 := Lib.hid (one_slE w3 (fel x) 94); have HK5 : Hid (Keep nob w3 (w3.alloc (.cells (EE.cells (fel x)).toArray 94))) := Lib.hid ((Keep.refl _ _).alloc _); have HG5 := Lib.hid (HGW.out.1.keep (HK3.out.then_ HK5.out) (fun ⟨_, _, h⟩ => h)))
            | (at_builtin; refine wpList_append_ow EE rfl _ _ 90 rfl 94 _ 120 Tryz.underlying90 infoElem rfl A i c rfl (vs.map fel) HNL.out HG5.out (some ⟨w3.heap.size, 0, none⟩) 1 1 rfl [_] rfl HSL5.out (by omega) (by omega) ?_; intro A' c' w6 hap; have HAP := Lib.hid hap; clear hap))
          have hz3 := HK3.out.size
          have hz5 := HK5.out.size
          have hmw := HMW.out
          have hzk := HK.out.size
          have hpush : Ow EE w6 A' c' ((vs ++ [x]).map fel) := by rw [List.map_append]; exact HAP.out.ow
          have hkept : Keep nob x0 w6 := ((HK.out.then_ HK3.out).then_ HK5.out).trans HAP.out.keep (fun j hj ⟨a, ha, hb⟩ => by have := HGW.out.2 a ha; omega)
          have hnew : ∀ a, A' = some a → x0.heap.size ≤ a.block := fun a ha => by
            rcases HAP.out.lies a ha with ⟨a0, h0, h1⟩ | ⟨h1, _⟩
            · have := HGW.out.2 a0 h0; omega
            · rw [h1]
              simp
              omega
          refine ⟨⟨i + 1, c', q, A', s.extract j s.size, _, by omega, rfl, ?_, HS2, Lib.hid (by rw [List.length_append, HEL.out]; rfl), HF2, Lib.hid ⟨hpush, hnew⟩, Lib.hid hkept⟩, ?_⟩
          · rfl
          · show (s.extract j s.size).size < s.size
            rw [HS2.out, HSN.out]
            omega

theorem elementsF_ok (small : Bool) (l : List Nat) (hl : ∀ x ∈ l, x < 18446744073709551616) (hn9 : l.length ≤ 1000000000) (lists : Bool) (r : Raw) (D : Nat → Prop) (B : Nat) (sa : Nat → Addr) (w : World) (gl : GL B sa w) (ht : Tr w D r (floV small l)) :
    Calls Tryz.prog 39 #[ER.val r, .bool lists] w (ElsF w (l.map canon)) := by
  have h1 : decL small 8 (l.map canon).length (encL small 8 (l.map canon)) = l.map canon := by
    rw [dec_enc, List.map_map]
    refine List.map_congr_left (fun x hx => ?_)
    have := canon_lt (hl x hx)
    exact Nat.mod_eq_of_lt this
  have h2 : (encL small 8 (l.map canon)).length = 8 * (l.map canon).length := encL_len _ _ _
  have h3 : (l.map canon).length ≤ 1000000000 := by rw [List.length_map]; exact hn9
  unfold floV at ht
  cases small with
  | false =>
    have h := elementsF_big 11 8 18 (l.map canon).length (encL false 8 (l.map canon)) lists (by decide) rfl (by decide) (by decide) (by decide) (encL_8 _ _ _) h2 h3 size_11 (by decide) (fun x W _ => oneF_ok false x W) r D B sa w gl ht
    rw [h1] at h
    exact h
  | true =>
    have h := elementsF_lit 75 8 22 (l.map canon).length (encL true 8 (l.map canon)) lists (by decide) rfl (by decide) (by decide) (by decide) (encL_8 _ _ _) h2 h3 size_75 (by decide) (fun x W _ => oneF_ok true x W) r D B sa w gl ht
    rw [h1] at h
    exact h
set_option maxRecDepth 100000 in
theorem tofloats1_ok (z : Nat) (w : World) : Calls Tryz.prog 46 #[EE.val (fel z)] w fun E w' => E = .returned (.tuple #[.float .f64 z, .bool true]) ∧ Keep nob w w' := by
  have HRN := Lib.hid (rangeE_new w (fel z) 94)
  have HKA : Hid (Keep nob w (w.alloc (.cells (EE.cells (fel z)).toArray 94))) := Lib.hid ((Keep.refl _ _).alloc _)
  obtain ⟨x0, HX0⟩ : ∃ x0, Hid (w.alloc (.cells (EE.cells (fel z)).toArray 94) = x0) := ⟨_, Lib.hid rfl⟩
  obtain ⟨b0, HB0⟩ : ∃ b0, Hid (w.heap.size = b0) := ⟨_, Lib.hid rfl⟩
  rw [HX0.out, HB0.out] at HRN
  rw [HX0.out] at HKA
  simp only [EE, fel, Raw.zero, Int.cast_ofNat_Int]
  have HX : Hid (w.alloc (.cells #[.int .i8 0, .int .u64 0, .bool false, .slice none 0 0, .int .u64 0, .int .i8 0, .string ⟨#[]⟩, .slice none 0 0, .float .f64 z, .bool false] 94) = x0) := HX0
  obtain ⟨a0, a1, a2, a3, a4, a5, a6, a7, a8, a9⟩ := elm_val HRN.out
  simp only [Nat.zero_add, fel, Raw.zero, Int.cast_ofNat_Int] at a0 a1 a2 a3 a4 a5 a6 a7 a8 a9
  clear HX0
  go_enter Tryz.func46, Tryz.ntmps46
  go_upto_region 1 with (fail)
  rw [HX.out, HB0.out]
  go_wp2
  go_ret2
  exact ⟨rfl, HKA.out⟩
/-- what ToFloats answers -/
def FloatsBack (w : World) (ls : List Nat) (E : Ending) (w' : World) : Prop := Keep nob w w' ∧ ∃ A c, E = .returned (.tuple #[.slice A ls.length c, .nilIface]) ∧ Sl EFl w' A c ls ∧ ∀ a, A = some a → w.heap.size ≤ a.block
set_option maxRecDepth 100000 in
set_option maxHeartbeats 1000000 in
theorem all_floats (ls : List Nat) (hn9 : ls.length ≤ 1000000000) (r : Raw) (w : World)
    (hck : ∀ W, Keep nob w W → Calls Tryz.prog 10 #[ER.val r] W fun E w' => E = .returned .nilIface ∧ Keep nob W w')
    (hel : ∀ W, Keep nob w W → Calls Tryz.prog 39 #[ER.val r, .bool true] W (ElsF W ls)) :
    Calls Tryz.prog 45 #[ER.val r, .func (.func 46) #[] #[]] w (FloatsBack w ls) := by
  have HCK := Lib.hid hck
  have HEL := Lib.hid hel
  obtain ⟨n, HN⟩ : ∃ n, Hid (ls.length = n) := ⟨_, Lib.hid rfl⟩
  rw [HN.out] at hn9
  have HE1 : Hid (∀ args w, (callFunc 46 args).run Tryz.prog w = .ok (.enter 46 args) w) := Lib.hid (fun args w => by go_simp)
  have HRN := Lib.hid (range_new w r 39)
  have HKA : Hid (Keep nob w (w.alloc (.cells (ER.cells r).toArray 39))) := Lib.hid ((Keep.refl _ _).alloc _)
  obtain ⟨x0, HX0⟩ : ∃ x0, Hid (w.alloc (.cells (ER.cells r).toArray 39) = x0) := ⟨_, Lib.hid rfl⟩
  obtain ⟨b0, HB0⟩ : ∃ b0, Hid (w.heap.size = b0) := ⟨_, Lib.hid rfl⟩
  rw [HX0.out, HB0.out] at HRN
  rw [HX0.out] at HKA
  have HC0 := Lib.hid (HCK.out x0 HKA.out)
  obtain ⟨rk, rn, rneg, rA, rL, rC, rbits, rext, rtext, rkA, rkL, rkC⟩ := r
  simp only [ER] at HC0 HEL ⊢
  have HX : Hid (w.alloc (.cells #[.int .i8 (rk : Int), .int .u64 (rn : Int), .bool rneg, .slice rA rL rC, .int .u64 (rbits : Int), .int .i8 rext, .string rtext, .slice rkA rkL rkC] 39) = x0) := HX0
  obtain ⟨a0, a1, a2, a3, a4, a5, a6, a7⟩ := cells_val HRN.out
  dsimp only at a0 a1 a2 a3 a4 a5 a6 a7
  clear HX0 hck hel
  go_enter Tryz.func45, Tryz.ntmps45
  go_upto_region 1 with (fail)
  rw [HX.out, HB0.out]
  go_upto_region 4 with (go_at_call 10; go_must (refine HC0.out.mono ?_); rintro E w1 ⟨rfl, hk1⟩; have HK1 := Lib.hid hk1; clear hk1)
  have HK01 := Lib.hid (HKA.out.then_ HK1.out)
  have HR1 := Lib.hid (range_keep0 HK1.out HRN.out)
  clear a0 a1 a2 a3 a4 a5 a6 a7
  obtain ⟨a0, a1, a2, a3, a4, a5, a6, a7⟩ := cells_val HR1.out
  dsimp only at a0 a1 a2 a3 a4 a5 a6 a7
  have HE0 := Lib.hid (HEL.out w1 HK01.out)
  go_wp2_with (go_at_call 39; go_must (refine HE0.out.mono ?_); rintro E w2 ⟨hk2, A2, c2, rfl, hs2, hl2⟩; rw [HN.out]; have HK2 := Lib.hid (HK01.out.then_ hk2); have HS2 := Lib.hid hs2; clear hk2 hs2 hl2)
  have HNE : Hid ((ls.map fel).length = n) := Lib.hid (by rw [List.length_map, HN.out])
  have hle := HS2.out.le
  have hcap := HS2.out.cap
  rw [HNE.out] at hle
  obtain ⟨m, HM⟩ : ∃ m, Hid (w2.heap.size = m) := ⟨_, Lib.hid rfl⟩
  have HMW : Hid (w.heap.size ≤ m) := Lib.hid (by rw [← HM.out]; exact HK2.out.size)
  go_loopw [9, 29] (fun u9 u29 wr => ∃ (i c : Nat) (A : Option Addr), i ≤ n ∧ u29 = .int .i64 (i : Int) ∧ u9 = .slice A i c ∧ Hid (Ow EFl wr A c (ls.take i)) ∧ Hid (∀ a, A = some a → m ≤ a.block) ∧ Hid (Keep nob w2 wr)) (fun _ u29 _ => n - (intOf u29).toNat)
  case atStart => exact ⟨0, 0, none, Nat.zero_le _, rfl, rfl, Lib.hid (Ow.nil_ EFl _ none), Lib.hid (fun _ h => by cases h), Lib.hid (Keep.refl _ _)⟩
  case round =>
    obtain ⟨i, c, A, hi, rfl, rfl, HO, HA, HK⟩ := hrel
    rcases Nat.lt_or_ge i n with hlt | hge
    · have d1 : decide ((i : Int) < (n : Int)) = true := by rw [decide_eq_true_iff]; omega
      have q0 : (0 : Int) ≤ (i : Int) := by omega
      have q1 : (i : Int) < (n : Int) := by omega
      have j5 : IntKind.i64.wrap ((i : Int) + 1) = (i : Int) + 1 := by rw [IntWalk.i64_left, IntWalk.wrap64_in _ ⟨by omega, by omega⟩]
      have hil : i < (ls.map fel).length := by rw [HNE.out]; exact hlt
      have hvl : i < ls.length := by rw [HN.out]; exact hlt
      obtain ⟨bk, ok, rfl, hx⟩ := (HS2.out.keep HK.out (fun ⟨_, _, h⟩ => h)).elem (i := i) hil
      obtain ⟨z, HZ⟩ : ∃ z, Hid (ls[i] = z) := ⟨_, Lib.hid rfl⟩
      rw [List.getElem_map, HZ.out] at hx
      have hx1 : wr.rangeAt bk (ok + i * 10) (EE.cells (fel z)) := hx
      have HTK : Hid (ls.take (i + 1) = ls.take i ++ [z]) := Lib.hid (by rw [← HZ.out]; exact List.take_succ_eq_append_getElem hvl)
      have HNL : Hid ((ls.take i).length = i) := Lib.hid (by rw [List.length_take]; omega)
      have HRN2 := Lib.hid (rangeE_new wr (fel z) 94)
      have HKE : Hid (Keep nob wr (wr.alloc (.cells (EE.cells (fel z)).toArray 94))) := Lib.hid ((Keep.refl _ _).alloc _)
      have HTC := Lib.hid (tofloats1_ok z (wr.alloc (.cells (EE.cells (fel z)).toArray 94)))
      obtain ⟨w4, HW4⟩ : ∃ w4, Hid (wr.alloc (.cells (EE.cells (fel z)).toArray 94) = w4) := ⟨_, Lib.hid rfl⟩
      obtain ⟨b8, HB8⟩ : ∃ b8, Hid (wr.heap.size = b8) := ⟨_, Lib.hid rfl⟩
      rw [HW4.out, HB8.out] at HRN2
      rw [HW4.out] at HKE HTC
      clear hx
      obtain ⟨e0, e1, e2, e3, e4, e5, e6, e7, e8, e9⟩ := elm_val hx1
      simp only [Nat.add_zero, fel, Raw.zero, Int.cast_ofNat_Int] at e0 e1 e2 e3 e4 e5 e6 e7 e8 e9
      simp only [EE, fel, Raw.zero, Int.cast_ofNat_Int] at HTC
      have hfl := store_flt
      go_upto_region 11 with (fail)
      rw [show wr.alloc (.cells #[.int .i8 0, .int .u64 0, .bool false, .slice none 0 0, .int .u64 0, .int .i8 0, .string ⟨#[]⟩, .slice none 0 0, .float .f64 z, .bool false] 94) = w4 from HW4.out, HB8.out]
      clear e0 e1 e2 e3 e4 e5 e6 e7 e8 e9
      obtain ⟨e0, e1, e2, e3, e4, e5, e6, e7, e8, e9⟩ := elm_val HRN2.out
      simp only [Nat.zero_add, fel, Raw.zero, Int.cast_ofNat_Int] at e0 e1 e2 e3 e4 e5 e6 e7 e8 e9
      have he1 := HE1.out
      go_upto_region 12 with ((with_reducible refine HTC.out.mono ?_); rintro E w5 ⟨rfl, hk5⟩; have HK5 := Lib.hid hk5; clear hk5)
      have HR5 := Lib.hid (range_keep0 HK5.out HRN2.out)
      clear e0 e1 e2 e3 e4 e5 e6 e7 e8 e9 he1
      obtain ⟨e0, e1, e2, e3, e4, e5, e6, e7, e8, e9⟩ := elm_val HR5.out
      simp only [Nat.zero_add, fel, Raw.zero, Int.cast_ofNat_Int] at e0 e1 e2 e3 e4 e5 e6 e7 e8 e9
      have HKF : Hid (Keep nob w5 (w5.alloc (.cells #[.float .f64 z] 29))) := Lib.hid ((Keep.refl _ _).alloc _)
      have HKT := Lib.hid ((((HK.out.then_ HKE.out).then_ HK5.out)).then_ HKF.out)
      have HOw := Lib.hid (HO.out.keep ((HKE.out.then_ HK5.out).then_ HKF.out) (fun ⟨_, _, h⟩ => h))
      have HSB : Hid (Sl EFl (w5.alloc (.cells #[.float .f64 z] 29)) (some ⟨w5.heap.size, 0, none⟩) 1 [z]) := Lib.hid (Ow.new_ EFl w5 _ _ 1 [z] (Nat.le_refl _) (by decide) rfl (fun j v hj => by simpa [El.flat_cons, El.flat_nil, EFl] using hj)).sl
      go_wp2_with (at_builtin; refine wpList_append_ow EFl rfl _ _ 24 rfl 29 _ 8 Tryz.underlying24 infoF64 rfl A i c rfl (ls.take i) HNL.out HOw.out (some ⟨w5.heap.size, 0, none⟩) 1 1 rfl [z] rfl HSB.out (by omega) (by omega) ?_; intro A' c' w6 hap; have HAP := Lib.hid hap; clear hap)
      have hap := HAP.out.ow
      rw [← HTK.out] at hap
      have hzk := HKT.out.size
      have hmm := HM.out
      refine ⟨⟨i + 1, c', A', hlt, rfl, rfl, Lib.hid hap, Lib.hid (fun a ha => ?_), Lib.hid (HKT.out.trans HAP.out.keep (fun j hj ⟨a, ha, hb⟩ => by have := HA.out a ha; omega))⟩, by simp [intOf]; omega⟩
      rcases HAP.out.lies a ha with ⟨a0, h0, h1⟩ | ⟨h1, _⟩
      · have := HA.out a0 h0; omega
      · omega
    · obtain rfl : i = n := by omega
      have d1 : decide ((i : Int) < (i : Int)) = false := by rw [decide_eq_false_iff_not]; omega
      have htk : ls.take i = ls := List.take_of_length_le (by rw [HN.out]; exact Nat.le_refl _)
      rw [htk] at HO
      clear htk
      go_wp2_with (fail)
      go_ret2
      exact ⟨HK2.out.then_ HK.out, A, c, by rw [HN.out]; rfl, HO.out.sl, fun a ha => Nat.le_trans HMW.out (HA.out a ha)⟩
set_option maxRecDepth 100000 in
theorem tofloats_ok (ls : List Nat) (hn9 : ls.length ≤ 1000000000) (r : Raw) (w : World)
    (hck : ∀ W, Keep nob w W → Calls Tryz.prog 10 #[ER.val r] W fun E w' => E = .returned .nilIface ∧ Keep nob W w')
    (hel : ∀ W, Keep nob w W → Calls Tryz.prog 39 #[ER.val r, .bool true] W (ElsF W ls)) :
    Calls Tryz.prog 18 #[ER.val r] w (FloatsBack w ls) := by
  have HRN := Lib.hid (range_new w r 39)
  have HKA : Hid (Keep nob w (w.alloc (.cells (ER.cells r).toArray 39))) := Lib.hid ((Keep.refl _ _).alloc _)
  obtain ⟨x0, HX0⟩ : ∃ x0, Hid (w.alloc (.cells (ER.cells r).toArray 39) = x0) := ⟨_, Lib.hid rfl⟩
  obtain ⟨b0, HB0⟩ : ∃ b0, Hid (w.heap.size = b0) := ⟨_, Lib.hid rfl⟩
  rw [HX0.out, HB0.out] at HRN
  rw [HX0.out] at HKA
  have HC := Lib.hid (all_floats ls hn9 r x0 (fun W hk => hck W (HKA.out.then_ hk)) (fun W hk => hel W (HKA.out.then_ hk)))
  obtain ⟨n, HN⟩ : ∃ n, Hid (ls.length = n) := ⟨_, Lib.hid rfl⟩
  obtain ⟨rk, rn, rneg, rA, rL, rC, rbits, rext, rtext, rkA, rkL, rkC⟩ := r
  simp only [ER] at HC ⊢
  have HX : Hid (w.alloc (.cells #[.int .i8 (rk : Int), .int .u64 (rn : Int), .bool rneg, .slice rA rL rC, .int .u64 (rbits : Int), .int .i8 rext, .string rtext, .slice rkA rkL rkC] 39) = x0) := HX0
  obtain ⟨a0, a1, a2, a3, a4, a5, a6, a7⟩ := cells_val HRN.out
  dsimp only at a0 a1 a2 a3 a4 a5 a6 a7
  clear HX0 hck hel
  go_enter Tryz.func18, Tryz.ntmps18
  go_upto_region 1 with (fail)
  rw [HX.out, HB0.out]
  go_wp2_with (go_at_call 45; go_must (refine HC.out.mono ?_); rintro E w1 ⟨hk1, A, c, rfl, hs1, hl1⟩; rw [HN.out]; have HK1 := Lib.hid hk1; have HS1 := Lib.hid hs1; have HL1 := Lib.hid hl1; clear hk1 hs1 hl1)
  go_ret2
  exact ⟨HKA.out.then_ HK1.out, A, c, by rw [HN.out]; rfl, HS1.out, fun a ha => Nat.le_trans HKA.out.size (HL1.out a ha)⟩
end Go.Proofs.YticnefkdkkjgcaaGreatDoor

/- An error with a node's path: At, Path, IsPath. -/
namespace Go.Proofs.YticnefkdkkjgcaaGreatDoor
open Go.RowKit

set_option maxRecDepth 100000 in
theorem at_path {B : Nat} {sa : Nat → Addr} {w : World} (g : GL B sa w) {D : Nat → Prop} {ev : Value} {c p : Nat} {path : ByteArray} (h : PErr sa w D ev c p path) : Calls Tryz.prog 37 #[ev] w fun e w' => e = .returned (.tuple #[.int .i64 (p : Int), .bool true]) ∧ Keep nob w w' := by
  obtain ⟨pb, rfl, _, _, h3, _⟩ := h
  obtain ⟨b4, HB4⟩ : ∃ b4, Hid (w.heap.size = b4) := ⟨_, Lib.hid rfl⟩
  obtain ⟨w1, HW1⟩ : ∃ w1, Hid (w.alloc (.cells #[.pointer none] 73) = w1) := ⟨_, Lib.hid rfl⟩
  have HK1 : Hid (Keep nob w w1) := by unfold Hid; rw [← HW1.out]; exact (Keep.refl _ _).alloc _
  have ht : w1.cell? ⟨b4, 0, none⟩ = some (.pointer none) := by rw [← HW1.out, ← HB4.out]; simp
  have hf : w1.frozen? ⟨b4, 0, none⟩ = false := by rw [← HW1.out, ← HB4.out]; simp
  have HA := Lib.hid (as_hit ⟨pb, 0, none⟩ ⟨b4, 0, none⟩ _ B sa w1 (g.keep HK1.out (fun _ h => h.elim)) ht hf)
  have hlt := World.block_lt_of_cell? w _ h3
  have HP3 : Hid (w1.cell? ⟨pb, 1, none⟩ = some (.int .i64 (p : Int))) := Lib.hid (HK1.out.cell h3 (fun h => h))
  have HNE : Hid (¬ pb = b4) := by have := HB4.out; simp only at hlt; exact Lib.hid (by omega)
  clear ht hf h3 g
  go_enter Tryz.func37, Tryz.ntmps37
  go_upto_region 2 with (fail)
  rw [HW1.out, HB4.out]
  go_wp2_with (go_at_call 48; go_must (refine HA.out.mono ?_); rintro e w2 ⟨rfl, ht2, hk2⟩; have h3 := hk2.cell HP3.out HNE.out; have HK2 := Lib.hid hk2; clear hk2)
  go_ret2
  have hb := HB4.out
  exact ⟨rfl, HK1.out.trans HK2.out (fun j h1 h2 => by have h4 : j = b4 := h2; omega)⟩
set_option maxRecDepth 100000 in
theorem path_path {B : Nat} {sa : Nat → Addr} {w : World} (g : GL B sa w) {D : Nat → Prop} {ev : Value} {c p : Nat} {path : ByteArray} (h : PErr sa w D ev c p path) : Calls Tryz.prog 19 #[ev] w fun e w' => e = .returned (.tuple #[.string path, .bool true]) ∧ Keep nob w w' := by
  obtain ⟨pb, rfl, _, _, _, h3⟩ := h
  obtain ⟨b4, HB4⟩ : ∃ b4, Hid (w.heap.size = b4) := ⟨_, Lib.hid rfl⟩
  obtain ⟨w1, HW1⟩ : ∃ w1, Hid (w.alloc (.cells #[.pointer none] 73) = w1) := ⟨_, Lib.hid rfl⟩
  have HK1 : Hid (Keep nob w w1) := by unfold Hid; rw [← HW1.out]; exact (Keep.refl _ _).alloc _
  have ht : w1.cell? ⟨b4, 0, none⟩ = some (.pointer none) := by rw [← HW1.out, ← HB4.out]; simp
  have hf : w1.frozen? ⟨b4, 0, none⟩ = false := by rw [← HW1.out, ← HB4.out]; simp
  have HA := Lib.hid (as_hit ⟨pb, 0, none⟩ ⟨b4, 0, none⟩ _ B sa w1 (g.keep HK1.out (fun _ h => h.elim)) ht hf)
  have hlt := World.block_lt_of_cell? w _ h3
  have HP3 : Hid (w1.cell? ⟨pb, 2, none⟩ = some (.string path)) := Lib.hid (HK1.out.cell h3 (fun h => h))
  have HNE : Hid (¬ pb = b4) := by have := HB4.out; simp only at hlt; exact Lib.hid (by omega)
  clear ht hf h3 g
  go_enter Tryz.func19, Tryz.ntmps19
  go_upto_region 2 with (fail)
  rw [HW1.out, HB4.out]
  go_wp2_with (go_at_call 48; go_must (refine HA.out.mono ?_); rintro e w2 ⟨rfl, ht2, hk2⟩; have h3 := hk2.cell HP3.out HNE.out; have HK2 := Lib.hid hk2; clear hk2)
  go_ret2
  have hb := HB4.out
  exact ⟨rfl, HK1.out.trans HK2.out (fun j h1 h2 => by have h4 : j = b4 := h2; omega)⟩
set_option maxRecDepth 100000 in
/-- it is the error of the number 4, of this node -/
theorem ispath_ok {B : Nat} {sa : Nat → Addr} {w : World} (g : GL B sa w) {D : Nat → Prop} {ev : Value} {path : ByteArray} (h : PErr sa w D ev 4 0 path) : Calls Tryz.prog 12 #[ev, .int .i64 4, .string path] w fun e w' => e = .returned (.bool true) ∧ Keep nob w w' := by
  have HC := Lib.hid (code_path g (by decide) (by decide) h)
  have HA := Lib.hid (fun (W : World) (k : Keep nob w W) => at_path (g.keep k (fun _ h => h.elim)) (h.keep k (fun _ _ h => h)))
  have HP := Lib.hid (fun (W : World) (k : Keep nob w W) => path_path (g.keep k (fun _ h => h.elim)) (h.keep k (fun _ _ h => h)))
  simp only [Int.cast_ofNat_Int] at HC HA
  obtain ⟨pb, rfl, h⟩ := h
  clear g h
  go_enter Tryz.func12, Tryz.ntmps12
  go_wp2_with (first | (go_at_call 20; go_must (refine HC.out.mono ?_); rintro e w1 ⟨rfl, hk1⟩; have HK1 := Lib.hid hk1; clear hk1) | (go_at_call 37; go_must (refine (HA.out _ HK1.out).mono ?_); rintro e w2 ⟨rfl, hk2⟩; have HK2 := Lib.hid (HK1.out.then_ hk2); clear hk2) | (go_at_call 19; go_must (refine (HP.out _ HK2.out).mono ?_); rintro e w3 ⟨rfl, hk3⟩; have HK3 := Lib.hid (HK2.out.then_ hk3); clear hk3))
  go_ret
  exact ⟨rfl, HK3.out⟩
end Go.Proofs.YticnefkdkkjgcaaGreatDoor

/- cruciblelaw25.lives. -/
namespace Go.Proofs.YticnefkdkkjgcaaGreatDoor
open Go.RowKit

/-- a value laid into cells of its own -/
theorem boxed (w : World) (r : Raw) : ∃ x b, Hid (w.alloc (.cells (ER.cells r).toArray 39) = x) ∧ Hid (w.heap.size = b) ∧ Hid (x.rangeAt b 0 (ER.cells r)) ∧ Hid (Keep nob w x) ∧ Hid (b < x.heap.size) :=
  ⟨_, _, Lib.hid rfl, Lib.hid rfl, Lib.hid (range_new w r 39), Lib.hid ((Keep.refl _ _).alloc _), Lib.hid (by simp)⟩
theorem two_new (w : World) (x y : Int) (T : TypeId) : Sl E64 (w.alloc (.cells #[.int .i64 x, .int .i64 y] T)) (some ⟨w.heap.size, 0, none⟩) 2 [x, y] :=
  ⟨Nat.le_refl _, by decide, fun _ => ⟨_, _, rfl, range_alloc_new w _ T _ (fun j v hj => by simpa [El.flat_cons, El.flat_nil, E64] using hj)⟩⟩
theorem ints_open {W : World} {D : Nat → Prop} {r : Raw} {l : List Int} (h : Tr W D r (intsV l)) : r.kL = l.length := by
  unfold intsV V.lis at h
  obtain ⟨-, -, -, -, -, -, -, rs, g1, -, -, g4⟩ := h
  rw [g1, g4.len, List.length_map]
set_option maxRecDepth 100000 in
theorem lives_text : Bt (encL (litK true 6) (nK 6) ([1, -2].map bits64)) = ⟨#[1, 0, 254, 255]⟩ := by kernel_rfl
set_option maxRecDepth 100000 in
set_option maxHeartbeats 2000000 in
theorem lives25_ok (B : Nat) (sa : Nat → Addr) (w : World) (g : GL B sa w) : Calls Tryz.prog 5 #[] w fun E w' => E = .returned (.bool true) ∧ Keep nob w w' := by
  have hl : ∀ z ∈ ([1, -2] : List Int), I64 z := fun z hz => by
    unfold I64
    simp only [List.mem_cons, List.not_mem_nil, or_false] at hz
    rcases hz with rfl | rfl <;> decide
  have hall : ([1, -2] : List Int).all (hasK 6) = true := by decide
  obtain ⟨w0, HW0⟩ : ∃ w0, Hid (w.alloc (.cells #[.int .i64 1, .int .i64 (-2)] 2) = w0) := ⟨_, Lib.hid rfl⟩
  obtain ⟨b0, HB0⟩ : ∃ b0, Hid (w.heap.size = b0) := ⟨_, Lib.hid rfl⟩
  have HK0 : Hid (Keep nob w w0) := by unfold Hid; rw [← HW0.out]; exact (Keep.refl _ _).alloc _
  have hs0 := two_new w 1 (-2) 2
  rw [HW0.out, HB0.out] at hs0
  have HG := Lib.hid (fun (W : World) (k : Keep nob w0 W) => g.keep (HK0.out.then_ k) (fun _ h => h.elim))
  have HI := Lib.hid (ints_good (k := 6) (small := true) (by decide) (by decide) (HG.out w0 (Keep.refl _ _)) rfl hs0 (by decide) hall)
  simp only [Int.cast_ofNat_Int] at HI
  have HTB := Lib.hid (fun (r : Raw) (D : Nat → Prop) (W : World) (k : Keep nob w0 W) (ht : Tr W D r (arrV (64 + iK true 6) (encL (litK true 6) (nK 6) ([1, -2].map bits64)))) (hD : ∀ j, D j → j < W.heap.size) => arr_back (k := 6) (small := true) (by decide) (by decide) hl (by decide) hall (HG.out W k) ht hD)
  have HTP := Lib.hid (fun (r : Raw) (D : Nat → Prop) (W : World) (k : Keep nob w0 W) (ht : Tr W D r (arrV (64 + iK true 6) (encL (litK true 6) (nK 6) ([1, -2].map bits64)))) (hD : ∀ j, D j → j < W.heap.size) => arr_plain (k := 6) (small := true) (by decide) (by decide) hl (by decide) hall (HG.out W k) ht hD)
  clear hl hall g hs0
  go_enter Tryz.func5, Tryz.ntmps5
  go_upto_region 2 with (first
    | (go_at_call 22; rw [HW0.out, HB0.out]; go_must (refine HI.out.mono ?_); rintro E w1 ⟨hk1, r, rfl, ht1⟩; have HK1 := Lib.hid hk1; have HT1 := Lib.hid ht1; clear hk1 ht1; unfold ER))
  obtain ⟨x1, b1, HX1, HB1, HR1, HKX1, HL1⟩ := boxed w1 r
  rw [show w1.alloc (.cells #[.int .i8 (r.kind : Int), .int .u64 (r.n : Int), .bool r.neg, .slice r.mA r.mL r.mC, .int .u64 (r.bits : Int), .int .i8 r.ext, .string r.text, .slice r.kA r.kL r.kC] 39) = x1 from HX1.out, HB1.out]
  obtain ⟨a0, a1, a2, a3, a4, a5, a6, a7⟩ := cells_val HR1.out
  have HT1x := Lib.hid (Tr.keep HKX1.out (nobD _) _ _ HT1.out)
  have HK01 := Lib.hid (HK1.out.then_ HKX1.out)
  have hz1 := HK1.out.size
  have HC1 := Lib.hid (HTB.out r _ x1 HK01.out (Tr.mono (D' := fun j => w0.heap.size ≤ j ∧ j < x1.heap.size) (fun j hj hd => ⟨hd, hj⟩) _ _ HT1x.out) (fun j hj => hj.2))
  have HC2 := Lib.hid (fun (W : World) (k : Keep nob x1 W) => HTP.out r _ W (HK01.out.then_ k) (Tr.mono (D' := fun j => w0.heap.size ≤ j ∧ j < W.heap.size) (fun j hj hd => ⟨hd, hj⟩) _ _ (Tr.keep k (nobD _) _ _ HT1x.out)) (fun j hj => hj.2))
  simp only [ER] at HC1 HC2
  go_upto_region 3 with (go_at_call 17; go_must (refine HC1.out.mono ?_); rintro E w2 ⟨hk2, A2, c2, rfl, hs2, hl2⟩; have HK2 := Lib.hid hk2; have HS2 := Lib.hid hs2; clear hk2 hs2 hl2)
  have HR2 := Lib.hid (range_keep0 HK2.out HR1.out)
  clear a0 a1 a2 a3 a4 a5 a6 a7
  obtain ⟨a0, a1, a2, a3, a4, a5, a6, a7⟩ := cells_val HR2.out
  go_upto_region 4 with (go_at_call 16; go_must (refine (HC2.out _ HK2.out).mono ?_); rintro E w3 ⟨hk3, p, rfl, ht3⟩; have HK3 := Lib.hid hk3; have HT3 := Lib.hid ht3; clear hk3 ht3; unfold ER)
  obtain ⟨x3, b3, HX3, HB3, HR3, HKX3, HL3⟩ := boxed w3 p
  rw [show w3.alloc (.cells #[.int .i8 (p.kind : Int), .int .u64 (p.n : Int), .bool p.neg, .slice p.mA p.mL p.mC, .int .u64 (p.bits : Int), .int .i8 p.ext, .string p.text, .slice p.kA p.kL p.kC] 39) = x3 from HX3.out, HB3.out]
  have HK13 := Lib.hid ((HK2.out.then_ HK3.out).then_ HKX3.out)
  have HT4 := Lib.hid (Tr.keep HK13.out (nobD _) _ _ HT1x.out)
  obtain ⟨bk, ok, -, hn, hkl, hka, -, htx⟩ := arr_open HT4.out
  have hpl := ints_open HT3.out
  rw [lives_text] at htx
  have hn' : (r.n : Int) = 77 := by rw [hn]; decide
  have hpl' : p.kL = 2 := hpl
  have HR4 := Lib.hid (range_keep0 HK13.out HR1.out)
  clear a0 a1 a2 a3 a4 a5 a6 a7
  obtain ⟨a0, a1, a2, a3, a4, a5, a6, a7⟩ := cells_val HR4.out
  obtain ⟨e0, e1, e2, e3, e4, e5, e6, e7⟩ := cells_val HR3.out
  rw [hn'] at a1
  rw [hkl, hka] at a7
  rw [hpl'] at e7
  have HS5 := Lib.hid (fun (W : World) (k : Keep nob x3 W) => (HS2.out.keep ((HK3.out.then_ HKX3.out).then_ k) (fun ⟨_, _, h⟩ => h)))
  have HK5 : Hid (Keep nob x3 (x3.alloc (.cells #[.int .i64 1, .int .i64 (-2)] 2))) := Lib.hid ((Keep.refl _ _).alloc _)
  have HSA := Lib.hid (same64_ok A2 (some ⟨x3.heap.size, 0, none⟩) c2 2 2 [1, -2] (x3.alloc (.cells #[.int .i64 1, .int .i64 (-2)] 2)) rfl (HS5.out _ HK5.out) (two_new x3 1 (-2) 2))
  have HKL := Lib.hid ((HK13.out.then_ HK5.out))
  have HR5 := Lib.hid (range_keep0 HK5.out HR3.out)
  have HPL := Lib.hid hpl'
  clear hn hkl hka hpl hn' hpl'
  go_wp2_with (go_at_call 21; go_must (refine HSA.out.mono ?_); rintro E w5 ⟨rfl, hk5⟩; have HK6 := Lib.hid hk5; have hr6 := range_keep0 hk5 HR5.out; obtain ⟨g0, g1, g2, g3, g4, g5, g6, g7⟩ := cells_val hr6; rw [HPL.out] at g7; clear hk5 hr6)
  go_ret
  exact ⟨rfl, ((HK0.out.then_ HK01.out).then_ HKL.out).then_ HK6.out⟩
end Go.Proofs.YticnefkdkkjgcaaGreatDoor

/- Complex numbers as a value, and back. Printed by mkxe. -/
namespace Go.Proofs.YticnefkdkkjgcaaGreatDoor
open Go.RowKit

/-- two slices that grow side by side -/
structure TwoS (w : World) (m : Nat) (A : Option Addr) (c : Nat) (xs : List Nat) (A' : Option Addr) (c' : Nat) (ys : List Nat) : Prop where
  o1 : Ow EFl w A c xs
  o2 : Ow EFl w A' c' ys
  m1 : ∀ a, A = some a → m ≤ a.block ∧ a.block < w.heap.size
  m2 : ∀ a, A' = some a → m ≤ a.block ∧ a.block < w.heap.size
  ne : ∀ a a', A = some a → A' = some a' → a.block ≠ a'.block
theorem TwoS.nil (w : World) (m : Nat) : TwoS w m none 0 [] none 0 [] := ⟨Ow.nil_ EFl _ none, Ow.nil_ EFl _ none, fun _ h => (by cases h), fun _ h => (by cases h), fun _ _ h => (by cases h)⟩
theorem TwoS.symm {w : World} {m : Nat} {A A' : Option Addr} {c c' : Nat} {xs ys : List Nat} (h : TwoS w m A c xs A' c' ys) : TwoS w m A' c' ys A c xs := ⟨h.o2, h.o1, h.m2, h.m1, fun a a' h1 h2 e => h.ne a' a h2 h1 e.symm⟩
theorem TwoS.keep {w w' : World} {m : Nat} {A A' : Option Addr} {c c' : Nat} {xs ys : List Nat} (h : TwoS w m A c xs A' c' ys) (k : Keep nob w w') : TwoS w' m A c xs A' c' ys :=
  ⟨h.o1.keep k (fun ⟨_, _, h⟩ => h), h.o2.keep k (fun ⟨_, _, h⟩ => h), fun a ha => ⟨(h.m1 a ha).1, Nat.lt_of_lt_of_le (h.m1 a ha).2 k.size⟩, fun a ha => ⟨(h.m2 a ha).1, Nat.lt_of_lt_of_le (h.m2 a ha).2 k.size⟩, h.ne⟩
theorem TwoS.push {w w6 : World} {m : Nat} {A A' B : Option Addr} {c c' k : Nat} {xs ys zs : List Nat} (h : TwoS w m A c xs A' c' ys) (hap : Appended EFl w A zs B k w6) (hm : m ≤ w.heap.size) : TwoS w6 m B k zs A' c' ys := by
  refine ⟨hap.ow, h.o2.keep hap.keep (fun ⟨a', h1, a, h2, h3⟩ => h.ne a a' h2 h1 h3), fun a ha => ?_, fun a ha => ⟨(h.m2 a ha).1, Nat.lt_of_lt_of_le (h.m2 a ha).2 hap.keep.size⟩, fun a a' ha ha' e => ?_⟩
  · rcases hap.lies a ha with ⟨a0, h0, h1⟩ | ⟨h1, h2⟩
    · have := h.m1 a0 h0; have := hap.keep.size; omega
    · omega
  · rcases hap.lies a ha with ⟨a0, h0, h1⟩ | ⟨h1, h2⟩
    · exact h.ne a0 a' h0 ha' (h1.trans e)
    · have := h.m2 a' ha'; omega
theorem TwoS.kept {w0 w w6 : World} {m : Nat} {A A' B : Option Addr} {c c' k : Nat} {xs ys zs : List Nat} (h : TwoS w m A c xs A' c' ys) (hap : Appended EFl w A zs B k w6) (h0 : w0.heap.size ≤ m) (kk : Keep nob w0 w) : Keep nob w0 w6 :=
  kk.trans hap.keep (fun j hj ⟨a, ha, hb⟩ => by have := h.m1 a ha; omega)
/-- two lists of floats as a value -/
def cpxV (s1 s2 : Bool) (l1 l2 : List Nat) : V := V.lis [floV s1 l1, floV s2 l2]
def cc (z : Nat × Nat) : Nat × Nat := (canon z.1, canon z.2)
set_option maxRecDepth 100000 in
set_option maxHeartbeats 2000000 in
theorem complexes_ok (zs : List (Nat × Nat)) (n c0 : Nat) (A0 : Option Addr) (B : Nat) (sa : Nat → Addr) (w : World) (g : GL B sa w) (hm : zs.length = n) (hn9 : n ≤ 1000000000) (h : Sl ECx w A0 c0 zs) :
    Calls Tryz.prog 8 #[.slice A0 n c0] w fun E w' => Keep nob w w' ∧ ∃ r, E = .returned (ER.val r) ∧ Tr w' (fun k => w.heap.size ≤ k) r (cpxV false false (zs.map (·.1)) (zs.map (·.2))) := by
  obtain ⟨w0, b4, HW0, HB4, HK0, HT0, HL0⟩ := start w
  have hle := h.le
  have hcap := h.cap
  rw [hm] at hle
  have HG := Lib.hid (g.keep HK0.out (fun _ h => h.elim))
  have HSL := Lib.hid (h.keep HK0.out (fun ⟨_, _, h⟩ => h))
  have HN := Lib.hid hm
  have HSP := Lib.hid (fun (z : Nat × Nat) (W : World) => rSplit_ok z.1 z.2 W)
  clear h hm g
  go_enter Tryz.func8, Tryz.ntmps8
  go_upto_region 1 with (fail)
  rw [HW0.out, HB4.out]
  go_wp2_with (fail)
  go_loopw [3, 4, 15] (fun u3 u4 u15 wr => ∃ (i c c' : Nat) (A A' : Option Addr), i ≤ n ∧ u15 = .int .i64 (i : Int) ∧ u3 = .slice A i c ∧ u4 = .slice A' i c' ∧ Hid (TwoS wr w0.heap.size A c ((zs.take i).map (·.1)) A' c' ((zs.take i).map (·.2))) ∧ Hid (Keep nob w0 wr)) (fun _ _ u15 _ => n - (intOf u15).toNat)
  case atStart => exact ⟨0, 0, 0, none, none, Nat.zero_le _, rfl, rfl, rfl, Lib.hid (TwoS.nil _ _), Lib.hid (Keep.refl _ _)⟩
  case round =>
    obtain ⟨i, c, c', A, A', hi, rfl, rfl, rfl, HO, HK⟩ := hrel
    rcases Nat.lt_or_ge i n with hlt | hge
    · have d1 : decide ((i : Int) < (n : Int)) = true := by rw [decide_eq_true_iff]; omega
      have q0 : (0 : Int) ≤ (i : Int) := by omega
      have q1 : (i : Int) < (n : Int) := by omega
      have j5 : IntKind.i64.wrap ((i : Int) + 1) = (i : Int) + 1 := by rw [IntWalk.i64_left, IntWalk.wrap64_in _ ⟨by omega, by omega⟩]
      have hil : i < zs.length := by rw [HN.out]; exact hlt
      have hln : zs ≠ [] := fun e => by rw [e] at hil; simp at hil
      obtain ⟨z, HZ⟩ : ∃ z, Hid (zs.getD i (0, 0) = z) := ⟨_, Lib.hid rfl⟩
      obtain ⟨ba, oa, rfl, -⟩ := HSL.out.at_ hln
      have hcx := slc_cell (HSL.out.keep HK.out (fun ⟨_, _, h⟩ => h)) hil HZ.out
      have HTK := Lib.hid (getD_take hil HZ.out)
      have HNL : Hid (((zs.take i).map (·.1)).length = i ∧ ((zs.take i).map (·.2)).length = i) := Lib.hid ⟨by rw [List.length_map, List.length_take]; omega, by rw [List.length_map, List.length_take]; omega⟩
      have HSP0 := Lib.hid (HSP.out z wr)
      obtain ⟨x, y⟩ := z
      dsimp only at hcx HSP0
      have HKF : Hid (Keep nob wr (wr.alloc (.cells #[.float .f64 x] 29))) := Lib.hid ((Keep.refl _ _).alloc _)
      have HOw := Lib.hid (HO.out.keep HKF.out)
      have HSB := Lib.hid (one_new EFl wr x (.float .f64 x) 29 rfl rfl)
      clear hln hil
      go_wp2_with (first
        | (go_at_call 13; go_must (refine HSP0.out.mono ?_); rintro E w2 ⟨rfl, rfl⟩)
        | (at_builtin; refine wpList_append_ow EFl rfl _ _ 24 rfl 29 _ 8 Tryz.underlying24 infoF64 rfl A i c rfl ((zs.take i).map (·.1)) HNL.out.1 HOw.out.o1 (some ⟨wr.heap.size, 0, none⟩) 1 1 rfl [x] rfl HSB.out (by omega) (by omega) ?_; intro B1 k1 w6 hap; have HAP := Lib.hid hap; clear hap; have HK6 : Hid (Keep nob w0 w6) := Lib.hid (HOw.out.kept HAP.out (Nat.le_refl _) (HK.out.then_ HKF.out)); have HKG : Hid (Keep nob w6 (w6.alloc (.cells #[.float .f64 y] 29))) := Lib.hid ((Keep.refl _ _).alloc _); have HOx := Lib.hid (((HOw.out.push HAP.out (HK.out.then_ HKF.out).size).keep HKG.out).symm); have HSC := Lib.hid (one_new EFl w6 y (.float .f64 y) 29 rfl rfl))
        | (at_builtin; refine wpList_append_ow EFl rfl _ _ 24 rfl 29 _ 8 Tryz.underlying24 infoF64 rfl A' i c' rfl ((zs.take i).map (·.2)) HNL.out.2 HOx.out.o1 (some ⟨w6.heap.size, 0, none⟩) 1 1 rfl [y] rfl HSC.out (by omega) (by omega) ?_; intro B2 k2 w8 hap; have HAQ := Lib.hid hap; clear hap))
      have e1 : (zs.take (i + 1)).map (·.1) = (zs.take i).map (·.1) ++ [x] := by rw [HTK.out, List.map_append]; rfl
      have e2 : (zs.take (i + 1)).map (·.2) = (zs.take i).map (·.2) ++ [y] := by rw [HTK.out, List.map_append]; rfl
      have hTS := (HOx.out.push HAQ.out (HK6.out.then_ HKG.out).size).symm
      rw [← e1, ← e2] at hTS
      exact ⟨⟨i + 1, k1, k2, B1, B2, hlt, rfl, rfl, rfl, Lib.hid hTS, Lib.hid (HOx.out.kept HAQ.out (Nat.le_refl _) (HK6.out.then_ HKG.out))⟩, by simp [intOf]; omega⟩
    · obtain rfl : i = n := by omega
      have d1 : decide ((i : Int) < (i : Int)) = false := by rw [decide_eq_false_iff_not]; omega
      have htk : zs.take i = zs := List.take_of_length_le (by rw [HN.out]; exact Nat.le_refl _)
      rw [htk] at HO
      clear htk
      have hzw := HK.out.size
      have HF1 := Lib.hid (tfloats_ok false (zs.map (·.1)) i c A B sa wr (HG.out.keep HK.out (fun _ h => h.elim)) (by rw [List.length_map, HN.out]) HO.out.o1.sl hn9)
      have HF2 := Lib.hid (fun (W : World) (k : Keep nob wr W) => tfloats_ok false (zs.map (·.2)) i c' A' B sa W ((HG.out.keep HK.out (fun _ h => h.elim)).keep k (fun _ h => h.elim)) (by rw [List.length_map, HN.out]) (HO.out.o2.sl.keep k (fun ⟨_, _, h⟩ => h)) hn9)
      go_upto_region 9 with (go_at_call 11; go_must (refine HF1.out.mono ?_); rintro E w1 ⟨hk1, r, rfl, ht1⟩; have HK1 := Lib.hid hk1; have HT1 := Lib.hid ht1; clear hk1 ht1; unfold ER)
      obtain ⟨x1, b1, HX1, HB1, HR1, HKX1, HLX1⟩ := boxed w1 r
      rw [show w1.alloc (.cells #[.int .i8 (r.kind : Int), .int .u64 (r.n : Int), .bool r.neg, .slice r.mA r.mL r.mC, .int .u64 (r.bits : Int), .int .i8 r.ext, .string r.text, .slice r.kA r.kL r.kC] 39) = x1 from HX1.out, HB1.out]
      have HKY1 := Lib.hid (HK1.out.then_ HKX1.out)
      have HF3 := Lib.hid (HF2.out x1 HKY1.out)
      go_upto_region 10 with (go_at_call 11; go_must (refine HF3.out.mono ?_); rintro E w2 ⟨hk2, s, rfl, ht2⟩; have HK2 := Lib.hid hk2; have HT2 := Lib.hid ht2; clear hk2 ht2; unfold ER)
      obtain ⟨x2, b2, HX2, HB2, HR2, HKX2, HLX2⟩ := boxed w2 s
      rw [show w2.alloc (.cells #[.int .i8 (s.kind : Int), .int .u64 (s.n : Int), .bool s.neg, .slice s.mA s.mL s.mC, .int .u64 (s.bits : Int), .int .i8 s.ext, .string s.text, .slice s.kA s.kL s.kC] 39) = x2 from HX2.out, HB2.out]
      have HKY2 := Lib.hid (HK2.out.then_ HKX2.out)
      have HRR := Lib.hid (range_keep0 HKY2.out HR1.out)
      obtain ⟨a0, a1, a2, a3, a4, a5, a6, a7⟩ := cells_val HRR.out
      obtain ⟨e0, e1, e2, e3, e4, e5, e6, e7⟩ := cells_val HR2.out
      have HS3 : Hid (Sl ER (x2.alloc (.cells #[.int .i8 (r.kind : Int), .int .u64 (r.n : Int), .bool r.neg, .slice r.mA r.mL r.mC, .int .u64 (r.bits : Int), .int .i8 r.ext, .string r.text, .slice r.kA r.kL r.kC, .int .i8 (s.kind : Int), .int .u64 (s.n : Int), .bool s.neg, .slice s.mA s.mL s.mC, .int .u64 (s.bits : Int), .int .i8 s.ext, .string s.text, .slice s.kA s.kL s.kC] 39)) (some ⟨x2.heap.size, 0, none⟩) 2 [r, s]) := Lib.hid (two_sl x2 r s 39)
      have HK3 : Hid (Keep nob x2 (x2.alloc (.cells #[.int .i8 (r.kind : Int), .int .u64 (r.n : Int), .bool r.neg, .slice r.mA r.mL r.mC, .int .u64 (r.bits : Int), .int .i8 r.ext, .string r.text, .slice r.kA r.kL r.kC, .int .i8 (s.kind : Int), .int .u64 (s.n : Int), .bool s.neg, .slice s.mA s.mL s.mC, .int .u64 (s.bits : Int), .int .i8 s.ext, .string s.text, .slice s.kA s.kL s.kC] 39))) := Lib.hid ((Keep.refl _ _).alloc _)
      have th3 := ((((HT0.out.keep' HK.out).keep' HKY1.out).keep' HKY2.out).keep' HK3.out)
      obtain ⟨v0, v1, v2, v3, v4, v5, v6, v7, ⟨c0, c1, c2, c3, c4, c5, c6, c7⟩, f0, f1, f2, f3, f4, f5, f6, f7⟩ := eight th3
      go_wp2
      obtain ⟨w10, e10, r10, k10⟩ := put8 th3 ⟨7, 0, false, none, 0, 0, 0, 0, ⟨#[]⟩, some ⟨x2.heap.size, 0, none⟩, 2, 2⟩ (.int .i8 7) (.int .u64 0) (.bool false) (.slice none 0 0) (.int .u64 0) (.int .i8 0) (.string ⟨#[]⟩) (.slice (some ⟨x2.heap.size, 0, none⟩) 2 2) rfl
      rw [e10.out]
      have h1 := HL0.out
      have h2 := HKY1.out.size
      have h3 := HKY2.out.size
      have h4 := HK3.out.size
      refine ret_v rfl rfl rfl r10 ⟨((((HK0.out.then_ HK.out).then_ HKY1.out).then_ HKY2.out).then_ HK3.out).trans k10 (fun k h1 h2 => by omega), _, rfl, ?_⟩
      have t1 := Tr.keep k10 (fun k hk e => by omega) _ _ (Tr.keep (HKX1.out.then_ (HKY2.out.then_ HK3.out)) (nobD _) _ _ HT1.out)
      have hxk := HKX1.out.size
      have t2 := Tr.keep k10 (fun k hk e => by omega) _ _ (Tr.keep (HKX2.out.then_ HK3.out) (nobD _) _ _ HT2.out)
      have hbn : ¬ InB (· = b4) (some ⟨x2.heap.size, 0, none⟩) := fun ⟨a, ha, hS⟩ => by cases ha; have hS' : x2.heap.size = b4 := hS; omega
      exact ⟨rfl, rfl, rfl, rfl, rfl, rfl, ⟨rfl, Sl.nil_ EU _ none (Nat.zero_le _), fun h => absurd rfl h⟩, [r, s], rfl, HS3.out.keep k10 hbn, fun _ => ⟨_, rfl, by dsimp only; omega⟩, Tr.mono (fun k _ hk => by omega) _ _ t1, Tr.mono (fun k _ hk => by omega) _ _ t2, trivial⟩

/-- what ToComplexes answers of two lists of floats -/
def CpxPost (sa : Nat → Addr) (w : World) (l1 l2 : List Nat) (E : Ending) (w' : World) : Prop :=
  (l1.length = l2.length ∧ Keep nob w w' ∧ ∃ A c, E = .returned (.tuple #[.slice A l1.length c, .nilIface]) ∧ Sl ECx w' A c ((List.zip l1 l2).map cc) ∧ ∀ a, A = some a → w.heap.size ≤ a.block) ∨
  (l1.length ≠ l2.length ∧ Keep nob w w' ∧ ∃ ev, E = .returned (.tuple #[.slice none 0 0, ev]) ∧ PErr sa w' (fun b => w.heap.size ≤ b) ev 4 0 ⟨#[47, 49]⟩)
theorem flo_len (small : Bool) (l : List Nat) (h : l.length ≤ 1000000000) : (encL small 8 (l.map canon)).length ≤ 9000000000 := by rw [encL_len, List.length_map]; omega
theorem floV_check {small : Bool} {l : List Nat} (hl : l.length ≤ 1000000000) {r : Raw} {D : Nat → Prop} {B : Nat} {sa : Nat → Addr} {w : World} (g : GL B sa w) (ht : Tr w D r (floV small l)) :
    Calls Tryz.prog 10 #[ER.val r] w fun e w' => e = .returned .nilIface ∧ Keep nob w w' :=
  arr_check (64 + iF small) _ (by omega) (flo_len small l hl) g (Tr.mono (D' := fun j => j < w.heap.size) (fun j hj _ => hj) _ _ ht) (fun _ h => h)
theorem cpxV_check {s1 s2 : Bool} {l1 l2 : List Nat} (h1 : l1.length ≤ 1000000000) (h2 : l2.length ≤ 1000000000) {r : Raw} {D : Nat → Prop} {B : Nat} {sa : Nat → Addr} {w : World} (g : GL B sa w) (ht : Tr w D r (cpxV s1 s2 l1 l2)) :
    Calls Tryz.prog 10 #[ER.val r] w fun e w' => e = .returned .nilIface ∧ Keep nob w w' := by
  obtain ⟨a1, a2, a3⟩ := arr_sm (tag := 64 + iF s1) (flo_len s1 l1 h1)
  obtain ⟨b1, b2, b3⟩ := arr_sm (tag := 64 + iF s2) (flo_len s2 l2 h2)
  have c1 := arr_all (64 + iF s1) (encL s1 8 (l1.map canon)) (by omega)
  have c2 := arr_all (64 + iF s2) (encL s2 8 (l2.map canon)) (by omega)
  refine check_ok (cpxV s1 s2 l1 l2) ?_ ?_ ?_ ?_ r _ B sa w g (Tr.mono (D' := fun j => j < w.heap.size) (fun j hj _ => hj) _ _ ht) (fun _ h => h)
  · unfold cpxV V.lis floV
    exact ⟨.lis _, c1, c2, trivial⟩
  · unfold cpxV V.lis floV
    exact ⟨by simp, by simp, by decide, a1, b1, trivial⟩
  · unfold cpxV V.lis floV
    exact ⟨by decide, a2, b2, trivial⟩
  · unfold cpxV V.lis depV
    rw [if_pos (by decide), depL_cons, depL_cons, depL_nil]
    unfold floV
    omega
theorem floV_back {small : Bool} {l : List Nat} (hb : ∀ x ∈ l, x < 18446744073709551616) (hl : l.length ≤ 1000000000) {r : Raw} {D : Nat → Prop} {B : Nat} {sa : Nat → Addr} {w : World} (g : GL B sa w) (ht : Tr w D r (floV small l)) :
    Calls Tryz.prog 18 #[ER.val r] w (FloatsBack w (l.map canon)) :=
  tofloats_ok (l.map canon) (by rw [List.length_map]; exact hl) r w (fun W k => floV_check hl (g.keep k (fun _ h => h.elim)) (Tr.keep k (nobD D) _ _ ht)) (fun W k => elementsF_ok small l hb hl true r D B sa W (g.keep k (fun _ h => h.elim)) (Tr.keep k (nobD D) _ _ ht))
theorem cpx_open {W : World} {D : Nat → Prop} {r : Raw} {s1 s2 : Bool} {l1 l2 : List Nat} (h : Tr W D r (cpxV s1 s2 l1 l2)) : ∃ bk ok r1 r2, r.kind = 7 ∧ r.kL = 2 ∧ r.kA = some ⟨bk, ok, none⟩ ∧ W.rangeAt bk ok (ER.cells r1) ∧ W.rangeAt bk (ok + 8) (ER.cells r2) ∧ Tr W D r1 (floV s1 l1) ∧ Tr W D r2 (floV s2 l2) := by
  unfold cpxV V.lis at h
  obtain ⟨h1, h2, h3, h4, h5, h6, h7, rs, g1, g2, g3, g4⟩ := h
  match rs, g4, g1, g2 with
  | [ra, rb], g4, g1, g2 =>
    obtain ⟨bk, ok, hA, hr⟩ := g2.at_ (by simp)
    rw [El.flat_cons, El.flat_cons, El.flat_nil, List.append_nil, range_app] at hr
    exact ⟨bk, ok, ra, rb, h1, g1, hA, hr.1, hr.2, g4.1, g4.2.1⟩
  | [], g4, _, _ => exact g4.elim
  | [_], g4, _, _ => exact g4.2.elim
  | _ :: _ :: _ :: _, g4, _, _ => exact g4.2.2.elim
set_option maxRecDepth 100000 in
set_option maxHeartbeats 2000000 in
theorem tocomplexes_ok (s1 s2 : Bool) (l1 l2 : List Nat) (hb1 : ∀ x ∈ l1, x < 18446744073709551616) (hb2 : ∀ x ∈ l2, x < 18446744073709551616) (h1 : l1.length ≤ 1000000000) (h2 : l2.length ≤ 1000000000) (r : Raw) (D : Nat → Prop) (B : Nat) (sa : Nat → Addr) (w : World) (g : GL B sa w) (ht : Tr w D r (cpxV s1 s2 l1 l2)) :
    Calls Tryz.prog 9 #[ER.val r] w (CpxPost sa w l1 l2) := by
  have HG := Lib.hid g
  have HT := Lib.hid ht
  have HCK := Lib.hid (fun (W : World) (k : Keep nob w W) => cpxV_check h1 h2 (g.keep k (fun _ h => h.elim)) (Tr.keep k (nobD D) _ _ ht))
  obtain ⟨n1, HN1⟩ : ∃ n1, Hid (l1.length = n1) := ⟨_, Lib.hid rfl⟩
  obtain ⟨n2, HN2⟩ : ∃ n2, Hid (l2.length = n2) := ⟨_, Lib.hid rfl⟩
  have HRN := Lib.hid (range_new w r 39)
  have HKA : Hid (Keep nob w (w.alloc (.cells (ER.cells r).toArray 39))) := Lib.hid ((Keep.refl _ _).alloc _)
  obtain ⟨x0, HX0⟩ : ∃ x0, Hid (w.alloc (.cells (ER.cells r).toArray 39) = x0) := ⟨_, Lib.hid rfl⟩
  obtain ⟨b0, HB0⟩ : ∃ b0, Hid (w.heap.size = b0) := ⟨_, Lib.hid rfl⟩
  rw [HX0.out, HB0.out] at HRN
  rw [HX0.out] at HKA
  have HC0 := Lib.hid (HCK.out x0 HKA.out)
  obtain ⟨bk, ok, r1, r2, hk7, hkl, hka, hr1, hr2, ht1, ht2⟩ := cpx_open ht
  have HR1 := Lib.hid hr1
  have HR2 := Lib.hid hr2
  have HF1 := Lib.hid (fun (W : World) (k : Keep nob w W) => floV_back hb1 h1 (g.keep k (fun _ h => h.elim)) (Tr.keep k (nobD D) _ _ ht1))
  have HF2 := Lib.hid (fun (W : World) (k : Keep nob w W) => floV_back hb2 h2 (g.keep k (fun _ h => h.elim)) (Tr.keep k (nobD D) _ _ ht2))
  obtain ⟨rk, rn, rneg, rA, rL, rC, rbits, rext, rtext, rkA, rkL, rkC⟩ := r
  dsimp only at hk7 hkl hka
  subst hk7 hkl hka
  simp only [ER, Int.cast_ofNat_Int] at HC0 HF1 HF2 ⊢
  have HX : Hid (w.alloc (.cells #[.int .i8 7, .int .u64 (rn : Int), .bool rneg, .slice rA rL rC, .int .u64 (rbits : Int), .int .i8 rext, .string rtext, .slice (some ⟨bk, ok, none⟩) 2 rkC] 39) = x0) := HX0
  obtain ⟨a0, a1, a2, a3, a4, a5, a6, a7⟩ := cells_val HRN.out
  simp only [Int.cast_ofNat_Int] at a0 a7
  rw [HN1.out] at h1
  rw [HN2.out] at h2
  clear HX0 ht hr1 hr2 ht1 ht2 hb1 hb2 g
  go_enter Tryz.func9, Tryz.ntmps9
  go_upto_region 1 with (fail)
  rw [HX.out, HB0.out]
  go_upto_region 4 with (go_at_call 10; go_must (refine HC0.out.mono ?_); rintro E w1 ⟨rfl, hk1⟩; have HK1 := Lib.hid hk1; clear hk1)
  have HK01 := Lib.hid (HKA.out.then_ HK1.out)
  clear a0 a1 a2 a3 a4 a5 a6 a7
  obtain ⟨a0, a1, a2, a3, a4, a5, a6, a7⟩ := cells_val (range_keep0 HK1.out HRN.out)
  simp only [Int.cast_ofNat_Int] at a0 a7
  obtain ⟨e0, e1, e2, e3, e4, e5, e6, e7⟩ := cells_val0 (range_keep0 HK01.out HR1.out)
  have HD1 := Lib.hid (HF1.out w1 HK01.out)
  go_upto_region 9 with (go_at_call 18; go_must (refine HD1.out.mono ?_); rintro E w2 ⟨hk2, A1, c1, rfl, hs1, hn1⟩; rw [List.length_map, HN1.out]; have HK2 := Lib.hid hk2; have HS1 := Lib.hid hs1; clear hk2 hs1 hn1)
  have HK02 := Lib.hid (HK01.out.then_ HK2.out)
  clear a0 a1 a2 a3 a4 a5 a6 a7 e0 e1 e2 e3 e4 e5 e6 e7
  obtain ⟨a0, a1, a2, a3, a4, a5, a6, a7⟩ := cells_val (range_keep0 (HK1.out.then_ HK2.out) HRN.out)
  simp only [Int.cast_ofNat_Int] at a0 a7
  obtain ⟨e0, e1, e2, e3, e4, e5, e6, e7⟩ := cells_val0 (range_keep0 HK02.out HR2.out)
  have HD2 := Lib.hid (HF2.out w2 HK02.out)
  by_cases hnn : n1 = n2
  · subst hnn
    go_wp2_with (go_at_call 18; go_must (refine HD2.out.mono ?_); rintro E w3 ⟨hk3, A2, c2, rfl, hs2, hn2⟩; rw [List.length_map, HN2.out]; have HK3 := Lib.hid hk3; have HS2 := Lib.hid hs2; clear hk3 hs2 hn2)
    have HK03 := Lib.hid (HK02.out.then_ HK3.out)
    have HSA := Lib.hid (HS1.out.keep HK3.out (fun ⟨_, _, h⟩ => h))
    have HLA : Hid ((l1.map canon).length = n1 ∧ (l2.map canon).length = n1) := Lib.hid ⟨by rw [List.length_map, HN1.out], by rw [List.length_map, HN2.out]⟩
    have hle1 := HSA.out.le
    have hcap1 := HSA.out.cap
    have hle2 := HS2.out.le
    have hcap2 := HS2.out.cap
    rw [HLA.out.1] at hle1
    rw [HLA.out.2] at hle2
    obtain ⟨m, HM⟩ : ∃ m, Hid (w3.heap.size = m) := ⟨_, Lib.hid rfl⟩
    obtain ⟨zs, HZS⟩ : ∃ zs, Hid ((List.zip l1 l2).map cc = zs) := ⟨_, Lib.hid rfl⟩
    have HZL : Hid (zs.length = n1) := Lib.hid (by rw [← HZS.out, List.length_map, List.length_zip, HN1.out, HN2.out, Nat.min_self])
    have HZG : Hid (∀ i, i < n1 → zs.getD i (0, 0) = ((l1.map canon).getD i 0, (l2.map canon).getD i 0)) := by
      refine Lib.hid (fun i hi => ?_)
      have g1 : i < l1.length := by rw [HN1.out]; exact hi
      have g2 : i < l2.length := by rw [HN2.out]; exact hi
      rw [← HZS.out]
      simp [List.getD_eq_getElem?_getD, List.getElem?_map, List.getElem?_zip_eq_some, List.getElem?_eq_getElem g1, List.getElem?_eq_getElem g2, List.zip, List.getElem?_zipWith, cc]
    go_loopw [8, 59] (fun u8 u59 wr => ∃ (i c : Nat) (A : Option Addr), i ≤ n1 ∧ u59 = .int .i64 (i : Int) ∧ u8 = .slice A i c ∧ Hid (Ow ECx wr A c (zs.take i)) ∧ Hid (∀ a, A = some a → m ≤ a.block) ∧ Hid (Keep nob w3 wr)) (fun _ u59 _ => n1 - (intOf u59).toNat)
    case atStart => exact ⟨0, 0, none, Nat.zero_le _, rfl, rfl, Lib.hid (Ow.nil_ ECx _ none), Lib.hid (fun _ h => by cases h), Lib.hid (Keep.refl _ _)⟩
    case round =>
      obtain ⟨i, c, A, hi, rfl, rfl, HO, HA, HK⟩ := hrel
      rcases Nat.lt_or_ge i n1 with hlt | hge
      · have d1 : decide ((i : Int) < (n1 : Int)) = true := by rw [decide_eq_true_iff]; omega
        have q0 : (0 : Int) ≤ (i : Int) := by omega
        have q1 : (i : Int) < (n1 : Int) := by omega
        have j5 : IntKind.i64.wrap ((i : Int) + 1) = (i : Int) + 1 := by rw [IntWalk.i64_left, IntWalk.wrap64_in _ ⟨by omega, by omega⟩]
        obtain ⟨x, HXX⟩ : ∃ x, Hid ((l1.map canon).getD i 0 = x) := ⟨_, Lib.hid rfl⟩
        obtain ⟨y, HYY⟩ : ∃ y, Hid ((l2.map canon).getD i 0 = y) := ⟨_, Lib.hid rfl⟩
        have hi1 : i < (l1.map canon).length := by rw [HLA.out.1]; exact hlt
        have hi2 : i < (l2.map canon).length := by rw [HLA.out.2]; exact hlt
        have hn1 : l1.map canon ≠ [] := fun e => by rw [e] at hi1; simp at hi1
        have hn2 : l2.map canon ≠ [] := fun e => by rw [e] at hi2; simp at hi2
        obtain ⟨ba, oa, rfl, -⟩ := HSA.out.at_ hn1
        obtain ⟨bb, ob, rfl, -⟩ := HS2.out.at_ hn2
        have HCE : Hid (∀ w', Kept wr w' → w'.cell? ⟨ba, oa + i, none⟩ = some (.float .f64 x) ∧ w'.cell? ⟨bb, ob + i, none⟩ = some (.float .f64 y)) := Lib.hid (fun w' hk =>
          ⟨slf_cell (HSA.out.keep (HK.out.then_ hk) (fun ⟨_, _, h⟩ => h)) hi1 HXX.out, slf_cell (HS2.out.keep (HK.out.then_ hk) (fun ⟨_, _, h⟩ => h)) hi2 HYY.out⟩)
        have HJN := Lib.hid (fun (W : World) => (rJoin_ok x y W).mono (R' := fun E w' => E = .returned (.complex .f64 x y) ∧ Kept W w') (fun E w2 h => ⟨h.1, h.2 ▸ Keep.refl _ _⟩))
        have HTK : Hid (zs.take (i + 1) = zs.take i ++ [(x, y)]) := Lib.hid (getD_take (by rw [HZL.out]; exact hlt) (by rw [HZG.out i hlt, HXX.out, HYY.out]))
        have HNL : Hid ((zs.take i).length = i) := Lib.hid (by rw [List.length_take, HZL.out]; omega)
        clear hi1 hi2 hn1 hn2
        go_upto_region 18 with (fail)
        refine wp_region_fx 11 [.p, .p, .p, .p, .kv, .p, .p, .p, .kv, .cv (.complex .f64 x y), .al] [] nob (fun _ => True) (fun _ _ _ _ => trivial) trivial (by kernel_rfl) (by kernel_rfl) (fun h => absurd rfl h) ?_
        simp only [List.take_succ_cons, List.take_zero, List.drop_succ_cons, List.drop_zero]
        refine fx_p ?_ (by rfl) (fun w' => ?_) (fun K hK => ?_); rotate_left; (go_simp; first | done | exact rfl); go_simp; refine hK _ ?_; clear hK K
        refine fx_p ?_ (by rfl) (fun w' => ?_) (fun K hK => ?_); rotate_left; (go_simp; first | done | exact rfl); go_simp; refine hK _ ?_; clear hK K
        refine fx_p ?_ (by rfl) (fun w' => ?_) (fun K hK => ?_); rotate_left; (go_simp; first | done | exact rfl); go_simp; refine hK _ ?_; clear hK K
        refine fx_p ?_ (by rfl) (fun w' => ?_) (fun K hK => ?_); rotate_left; (go_simp; first | done | exact rfl); go_simp; refine hK _ ?_; clear hK K
        refine fx_kv ?_ (by rfl) (fun w' hw' ha => ?_) (fun K hK => ?_); rotate_left; (obtain ⟨c1, c2⟩ := HCE.out w' hw'.keep; go_simp; first | done | exact rfl); go_simp; refine hK _ ?_; clear hK K
        refine fx_p ?_ (by rfl) (fun w' => ?_) (fun K hK => ?_); rotate_left; (go_simp; first | done | exact rfl); go_simp; refine hK _ ?_; clear hK K
        refine fx_p ?_ (by rfl) (fun w' => ?_) (fun K hK => ?_); rotate_left; (go_simp; first | done | exact rfl); go_simp; refine hK _ ?_; clear hK K
        refine fx_p ?_ (by rfl) (fun w' => ?_) (fun K hK => ?_); rotate_left; (go_simp; first | done | exact rfl); go_simp; refine hK _ ?_; clear hK K
        refine fx_kv ?_ (by rfl) (fun w' hw' ha => ?_) (fun K hK => ?_); rotate_left; (obtain ⟨c1, c2⟩ := HCE.out w' hw'.keep; go_simp; first | done | exact rfl); go_simp; refine hK _ ?_; clear hK K
        refine fx_cv (f := ?_) (args := ?_) (by rfl) (fun w' => ?_) (fun w' hw' ha => ?_) (fun K hK => ?_); rotate_left 2; (go_simp; first | done | (refine And.intro ?_ ?_ <;> exact rfl) | exact rfl); (exact HJN.out w'); go_simp; refine hK _ ?_; clear hK K
        refine fx_new (fun _ h => h.elim) (fun b => .slice (some ⟨b, 0, none⟩) 1 1) ?_ ?_ (by rfl) (fun w' hw' ha => ?_) (fun K hK ba' => ?_); rotate_left 2; (obtain ⟨c1, c2⟩ := HCE.out w' hw'.keep; go_simp; first | done | exact rfl); go_simp; refine hK _ _ ?_; clear hK K
        refine fx_nil ?_
        intro w9 hk9 hΓ
        have HK9 := Lib.hid hk9.keep
        have HFba' := Lib.hid (hΓ _ List.mem_cons_self)
        clear hk9 hΓ
        have HKT := Lib.hid (HK.out.then_ HK9.out)
        have HOw := Lib.hid (HO.out.keep HK9.out (fun ⟨_, _, h⟩ => h))
        have HSB : Hid (Sl ECx w9 (some ⟨ba', 0, none⟩) 1 [(x, y)]) := Lib.hid ⟨Nat.le_refl _, by decide, fun _ => ⟨ba', 0, rfl, by simpa [El.flat_cons, El.flat_nil, ECx] using HFba'.out.2.1⟩⟩
        go_wp2_with (at_builtin; refine wpList_append_ow ECx rfl _ _ 26 rfl 27 _ 16 Tryz.underlying26 infoC128 rfl A i c rfl (zs.take i) HNL.out HOw.out (some ⟨ba', 0, none⟩) 1 1 rfl [(x, y)] rfl HSB.out (by omega) (by omega) ?_; intro A' c' w6 hap; have HAP := Lib.hid hap; clear hap)
        have hap := HAP.out.ow
        rw [← HTK.out] at hap
        have hzk := HKT.out.size
        have hmm := HM.out
        refine ⟨⟨i + 1, c', A', hlt, rfl, rfl, Lib.hid hap, Lib.hid (fun a ha => ?_), Lib.hid (HKT.out.trans HAP.out.keep (fun j hj ⟨a, ha, hb⟩ => by have := HA.out a ha; omega))⟩, by simp [intOf]; omega⟩
        rcases HAP.out.lies a ha with ⟨a0, h0, h1⟩ | ⟨h1, _⟩
        · have := HA.out a0 h0; omega
        · omega
      · obtain rfl : i = n1 := by omega
        have d1 : decide ((i : Int) < (i : Int)) = false := by rw [decide_eq_false_iff_not]; omega
        have htk : zs.take i = zs := List.take_of_length_le (by rw [HZL.out]; exact Nat.le_refl _)
        rw [htk] at HO
        clear htk
        go_wp2_with (fail)
        go_ret2
        have hz3 := HK03.out.size
        have hmm := HM.out
        exact .inl ⟨by rw [HN1.out, HN2.out], HK03.out.then_ HK.out, A, c, by rw [HN1.out]; rfl, by rw [HZS.out]; exact HO.out.sl, fun a ha => by have := HA.out a ha; omega⟩
  · have hd : ((n1 : Int) != (n2 : Int)) = true := by rw [bne_iff_ne]; omega
    have HE := Lib.hid (fun (W : World) (k : Keep nob w W) => fnew_4 0 ⟨#[47, 49]⟩ B sa W (HG.out.keep k (fun _ h => h.elim)))
    simp only [Int.cast_ofNat_Int] at HE
    go_wp2_with (first
      | (go_at_call 18; go_must (refine HD2.out.mono ?_); rintro E w3 ⟨hk3, A2, c2, rfl, hs2, hn2⟩; rw [List.length_map, HN2.out]; have HK3 := Lib.hid (HK02.out.then_ hk3); clear hk3 hs2 hn2)
      | (go_at_call 24; go_must (refine (HE.out _ HK3.out).mono ?_); rintro E w4 ⟨ev, rfl, hk4, he4⟩; have HK4 := Lib.hid hk4; have HE4 := Lib.hid he4; clear hk4 he4))
    go_ret2
    have hz := HK3.out.size
    exact .inr ⟨by rw [HN1.out, HN2.out]; exact hnn, HK3.out.then_ HK4.out, ev, rfl, HE4.out.mono (fun b _ hb => by omega)⟩
end Go.Proofs.YticnefkdkkjgcaaGreatDoor
