/- lives. -/
import Derived.Stop.LaidErr
import Derived.LaidSub
import Derived.Test.YtiemkfibpfndaaaGreatDoorPa7
namespace Go.Proofs.YtiemkfibpfndaaaGreatDoor
open Go.RowKit

theorem flat4 (a b c d : Raw) : ER.flat [a, b, c, d] = ER.cells a ++ (ER.cells b ++ (ER.cells c ++ (ER.cells d ++ []))) := by simp only [El.flat_cons, El.flat_nil]
theorem flat2 (a b : Raw) : ER.flat [a, b] = ER.cells a ++ (ER.cells b ++ []) := by simp only [El.flat_cons, El.flat_nil]
theorem open2 {W : World} {D : Nat → Prop} {r : Raw} {a b : V} (h : Tr W D r (V.lis [a, b])) : r.kL = 2 ∧ ∃ jb jo ra rb, r.kA = some ⟨jb, jo, none⟩ ∧ W.rangeAt jb jo (ER.flat [ra, rb]) ∧ Tr W D ra a ∧ Tr W D rb b := by
  unfold V.lis at h
  unfold Tr at h
  obtain ⟨-, -, -, -, -, -, -, rs, h1, h2, -, h4⟩ := h
  have hl := h4.len
  match rs, hl, h1, h2, h4 with
  | [ra, rb], _, h1, h2, h4 =>
    obtain ⟨jb, jo, e, hr⟩ := h2.at_ (by simp)
    unfold TrL at h4
    obtain ⟨k1, h4⟩ := h4
    unfold TrL at h4
    exact ⟨h1, jb, jo, ra, rb, e, hr, k1, h4.1⟩
theorem v1_cells {W : World} {D : Nat → Prop} {r : Raw} (h : Tr W D r (V.map [V.tex ⟨#[97]⟩, V.lis [belowV 1, V.flo 4609434218613702656], V.tex ⟨#[98]⟩, wholeV 1])) : r.kind = 8 ∧ r.kL = 4 ∧ ∃ kb ko, r.kA = some ⟨kb, ko, none⟩ ∧ W.cell? ⟨kb, ko + 6, none⟩ = some (.string ⟨#[97]⟩) ∧
    ∃ jb jo jc, W.cell? ⟨kb, ko + 8 + 7, none⟩ = some (.slice (some ⟨jb, jo, none⟩) 2 jc) ∧ W.cell? ⟨jb, jo + 8 + 4, none⟩ = some (.int .u64 4609434218613702656) := by
  unfold V.map at h
  unfold Tr at h
  obtain ⟨hk, -, -, -, -, -, -, rs, h1, h2, -, h4⟩ := h
  have hl := h4.len
  match rs, hl, h1, h2, h4 with
  | [ra, rb, rc, rd], _, h1, h2, h4 =>
    obtain ⟨kb, ko, e, hr⟩ := h2.at_ (by simp)
    unfold TrL at h4
    obtain ⟨k1, h4⟩ := h4
    unfold TrL at h4
    obtain ⟨k2, -⟩ := h4
    obtain ⟨hl2, jb, jo, qa, qb, e2, hr2, -, q2⟩ := open2 k2
    unfold V.tex at k1
    unfold Tr at k1
    unfold V.flo at q2
    unfold Tr at q2
    refine ⟨hk, h1, kb, ko, e, ?_, jb, jo, rb.kC, ?_, ?_⟩
    · have h := hr 6 (.string ra.text) (by rw [flat4]; rfl)
      rw [k1.2.2.2.2.2.1] at h
      exact h
    · have h := hr 15 (.slice rb.kA rb.kL rb.kC) (by rw [flat4]; rfl)
      rw [e2, hl2] at h
      exact h
    · have h := hr2 12 (.int .u64 (qb.bits : Int)) (by rw [flat2]; rfl)
      rw [q2.2.2.2.1] at h
      exact h
set_option maxRecDepth 100000 in
set_option maxHeartbeats 2000000 in
theorem lives_ok (B : Nat) (sa : Nat → Addr) (w : World) (g : GL B sa w) : Calls Tryz.prog 7 #[] w fun e w' => e = .returned (.bool true) ∧ Keep nob w w' := by
  have HG := Lib.hid g
  have R1 : Hid (Calls Tryz.prog 9 #[.string ⟨#[130, 161, 98, 1, 161, 97, 146, 255, 202, 63, 192, 0, 0]⟩] w (fun e w2 => Keep nob w w2 ∧ ∃ r : Raw, e = .returned (.tuple #[.agg #[.int .i8 (r.kind : Int), .int .u64 (r.n : Int), .bool r.neg, .slice r.mA r.mL r.mC, .int .u64 (r.bits : Int), .int .i8 r.ext, .string r.text, .slice r.kA r.kL r.kC], .nilIface]) ∧ Tr w2 (fun k => w.heap.size ≤ k) r (V.map [V.tex ⟨#[97]⟩, V.lis [belowV 1, V.flo 4609434218613702656], V.tex ⟨#[98]⟩, wholeV 1]))) := by
    have h := read_ok ⟨#[130, 161, 98, 1, 161, 97, 146, 255, 202, 63, 192, 0, 0]⟩ (by decide) B sa w g
    rw [r1] at h
    exact Lib.hid h
  have R2 : Hid (∀ W, Keep nob w W → Calls Tryz.prog 9 #[.string ⟨#[162, 97]⟩] W (fun e w2 => ∃ ev, e = .returned (.tuple #[.agg #[.int .i8 0, .int .u64 0, .bool false, .slice none 0 0, .int .u64 0, .int .i8 0, .string ⟨#[]⟩, .slice none 0 0], ev]) ∧ Keep nob W w2 ∧ FErr sa w2 (fun k => W.heap.size ≤ k) ev 3 2)) := by
    refine Lib.hid (fun W k => ?_)
    have h := read_ok ⟨#[162, 97]⟩ (by decide) B sa W (g.keep k (fun _ h => h.elim))
    rw [r2] at h
    exact h
  have R3 : Hid (∀ W, Keep nob w W → Calls Tryz.prog 9 #[.string ⟨#[130, 1, 2, 202, 63, 128, 0, 0, 3]⟩] W (fun e w2 => ∃ ev, e = .returned (.tuple #[.agg #[.int .i8 0, .int .u64 0, .bool false, .slice none 0 0, .int .u64 0, .int .i8 0, .string ⟨#[]⟩, .slice none 0 0], ev]) ∧ Keep nob W w2 ∧ FErr sa w2 (fun k => W.heap.size ≤ k) ev 3 3)) := by
    refine Lib.hid (fun W k => ?_)
    have h := read_ok ⟨#[130, 1, 2, 202, 63, 128, 0, 0, 3]⟩ (by decide) B sa W (g.keep k (fun _ h => h.elim))
    rw [r3] at h
    exact h
  have R4 : Hid (∀ W, Keep nob w W → Calls Tryz.prog 14 #[.string ⟨#[0, 255, 195]⟩, .int .i64 1] W (fun e w2 => Keep nob W w2 ∧ ∃ r : Raw, e = .returned (.tuple #[.agg #[.int .i8 (r.kind : Int), .int .u64 (r.n : Int), .bool r.neg, .slice r.mA r.mL r.mC, .int .u64 (r.bits : Int), .int .i8 r.ext, .string r.text, .slice r.kA r.kL r.kC], .int .i64 2, .nilIface]) ∧ Tr w2 (fun k => W.heap.size ≤ k) r (V.int true [1]))) := by
    refine Lib.hid (fun W k => ?_)
    have h := next_ok ⟨#[0, 255, 195]⟩ 1 (by decide) (by decide) B sa W (g.keep k (fun _ h => h.elim))
    rw [r4] at h
    exact h
  have R5 : Hid (∀ W, Keep nob w W → Calls Tryz.prog 14 #[.string ⟨#[0]⟩, .int .i64 2] W (fun e w2 => e = .returned (.tuple #[.agg #[.int .i8 0, .int .u64 0, .bool false, .slice none 0 0, .int .u64 0, .int .i8 0, .string ⟨#[]⟩, .slice none 0 0], .int .i64 0, sent sa 1]) ∧ Keep nob W w2)) :=
    Lib.hid (fun W k => next_out ⟨#[0]⟩ 2 (by decide) (by decide) B sa W (g.keep k (fun _ h => h.elim)))
  have R6 : Hid (∀ W, Keep nob w W → Calls Tryz.prog 9 #[.string ⟨#[199, 3, 255, 97, 98, 99]⟩] W (fun e w2 => Keep nob W w2 ∧ ∃ r : Raw, e = .returned (.tuple #[.agg #[.int .i8 (r.kind : Int), .int .u64 (r.n : Int), .bool r.neg, .slice r.mA r.mL r.mC, .int .u64 (r.bits : Int), .int .i8 r.ext, .string r.text, .slice r.kA r.kL r.kC], .nilIface]) ∧ Tr w2 (fun k => W.heap.size ≤ k) r (V.xt (-1) ⟨#[97, 98, 99]⟩))) := by
    refine Lib.hid (fun W k => ?_)
    have h := read_ok ⟨#[199, 3, 255, 97, 98, 99]⟩ (by decide) B sa W (g.keep k (fun _ h => h.elim))
    rw [r6] at h
    exact h
  clear g
  go_enter Tryz.func7, Tryz.ntmps7
  go_upto_region 2 with (go_at_call 9; go_must (refine R1.out.mono ?_); rintro e w1 ⟨hk1, q1, rfl, ht1⟩; have HK1 := Lib.hid hk1; have HT1 := Lib.hid ht1; clear hk1 ht1)
  obtain ⟨x1, HX1⟩ : ∃ x1, Hid (w1.alloc (.cells #[.int .i8 (q1.kind : Int), .int .u64 (q1.n : Int), .bool q1.neg, .slice q1.mA q1.mL q1.mC, .int .u64 (q1.bits : Int), .int .i8 q1.ext, .string q1.text, .slice q1.kA q1.kL q1.kC] 55) = x1) := ⟨_, Lib.hid rfl⟩
  obtain ⟨b1, HB1⟩ : ∃ b1, Hid (w1.heap.size = b1) := ⟨_, Lib.hid rfl⟩
  have HA1 : Hid (Keep nob w1 x1) := by unfold Hid; rw [← HX1.out]; exact (Keep.refl _ _).alloc _
  have HN1 := Lib.hid (range_new w1 q1 55)
  rw [show w1.alloc (.cells (ER.cells q1).toArray 55) = x1 from HX1.out, HB1.out] at HN1
  have HW1 : Hid (Keep nob w x1) := Lib.hid (HK1.out.then_ HA1.out)
  rw [HX1.out, HB1.out]
  go_upto_region 3 with (go_at_call 9; go_must (refine (R2.out _ HW1.out).mono ?_); rintro e w2 ⟨ev2, rfl, hk2, he2⟩; have HK2 := Lib.hid hk2; have HE2 := Lib.hid he2; clear hk2 he2)
  obtain ⟨x2, HX2⟩ : ∃ x2, Hid (w2.alloc (.cells #[.int .i8 0, .int .u64 0, .bool false, .slice none 0 0, .int .u64 0, .int .i8 0, .string ⟨#[]⟩, .slice none 0 0] 55) = x2) := ⟨_, Lib.hid rfl⟩
  obtain ⟨b2, HB2⟩ : ∃ b2, Hid (w2.heap.size = b2) := ⟨_, Lib.hid rfl⟩
  have HA2 : Hid (Keep nob w2 x2) := by unfold Hid; rw [← HX2.out]; exact (Keep.refl _ _).alloc _
  have HW2 : Hid (Keep nob w x2) := Lib.hid ((HW1.out.then_ HK2.out).then_ HA2.out)
  rw [HX2.out, HB2.out]
  go_upto_region 4 with (go_at_call 9; go_must (refine (R3.out _ HW2.out).mono ?_); rintro e w3 ⟨ev3, rfl, hk3, he3⟩; have HK3 := Lib.hid hk3; have HE3 := Lib.hid he3; clear hk3 he3)
  obtain ⟨x3, HX3⟩ : ∃ x3, Hid (w3.alloc (.cells #[.int .i8 0, .int .u64 0, .bool false, .slice none 0 0, .int .u64 0, .int .i8 0, .string ⟨#[]⟩, .slice none 0 0] 55) = x3) := ⟨_, Lib.hid rfl⟩
  obtain ⟨b3, HB3⟩ : ∃ b3, Hid (w3.heap.size = b3) := ⟨_, Lib.hid rfl⟩
  have HA3 : Hid (Keep nob w3 x3) := by unfold Hid; rw [← HX3.out]; exact (Keep.refl _ _).alloc _
  have HW3 : Hid (Keep nob w x3) := Lib.hid ((HW2.out.then_ HK3.out).then_ HA3.out)
  rw [HX3.out, HB3.out]
  go_upto_region 5 with (go_at_call 14; go_must (refine (R4.out _ HW3.out).mono ?_); rintro e w4 ⟨hk4, q4, rfl, ht4⟩; have HK4 := Lib.hid hk4; have HT4 := Lib.hid ht4; clear hk4 ht4)
  obtain ⟨x4, HX4⟩ : ∃ x4, Hid (w4.alloc (.cells #[.int .i8 (q4.kind : Int), .int .u64 (q4.n : Int), .bool q4.neg, .slice q4.mA q4.mL q4.mC, .int .u64 (q4.bits : Int), .int .i8 q4.ext, .string q4.text, .slice q4.kA q4.kL q4.kC] 55) = x4) := ⟨_, Lib.hid rfl⟩
  obtain ⟨b4, HB4⟩ : ∃ b4, Hid (w4.heap.size = b4) := ⟨_, Lib.hid rfl⟩
  have HA4 : Hid (Keep nob w4 x4) := by unfold Hid; rw [← HX4.out]; exact (Keep.refl _ _).alloc _
  have HN4 := Lib.hid (range_new w4 q4 55)
  rw [show w4.alloc (.cells (ER.cells q4).toArray 55) = x4 from HX4.out, HB4.out] at HN4
  have HW4 : Hid (Keep nob w x4) := Lib.hid ((HW3.out.then_ HK4.out).then_ HA4.out)
  rw [HX4.out, HB4.out]
  go_upto_region 6 with (go_at_call 14; go_must (refine (R5.out _ HW4.out).mono ?_); rintro e w5 ⟨rfl, hk5⟩; have HK5 := Lib.hid hk5; clear hk5)
  obtain ⟨x5, HX5⟩ : ∃ x5, Hid (w5.alloc (.cells #[.int .i8 0, .int .u64 0, .bool false, .slice none 0 0, .int .u64 0, .int .i8 0, .string ⟨#[]⟩, .slice none 0 0] 55) = x5) := ⟨_, Lib.hid rfl⟩
  obtain ⟨b5, HB5⟩ : ∃ b5, Hid (w5.heap.size = b5) := ⟨_, Lib.hid rfl⟩
  have HA5 : Hid (Keep nob w5 x5) := by unfold Hid; rw [← HX5.out]; exact (Keep.refl _ _).alloc _
  have HW5 : Hid (Keep nob w x5) := Lib.hid ((HW4.out.then_ HK5.out).then_ HA5.out)
  rw [HX5.out, HB5.out]
  go_upto_region 7 with (go_at_call 9; go_must (refine (R6.out _ HW5.out).mono ?_); rintro e w6 ⟨hk6, q6, rfl, ht6⟩; have HK6 := Lib.hid hk6; have HT6 := Lib.hid ht6; clear hk6 ht6)
  obtain ⟨x6, HX6⟩ : ∃ x6, Hid (w6.alloc (.cells #[.int .i8 (q6.kind : Int), .int .u64 (q6.n : Int), .bool q6.neg, .slice q6.mA q6.mL q6.mC, .int .u64 (q6.bits : Int), .int .i8 q6.ext, .string q6.text, .slice q6.kA q6.kL q6.kC] 55) = x6) := ⟨_, Lib.hid rfl⟩
  obtain ⟨b6, HB6⟩ : ∃ b6, Hid (w6.heap.size = b6) := ⟨_, Lib.hid rfl⟩
  have HA6 : Hid (Keep nob w6 x6) := by unfold Hid; rw [← HX6.out]; exact (Keep.refl _ _).alloc _
  have HN6 := Lib.hid (range_new w6 q6 55)
  rw [show w6.alloc (.cells (ER.cells q6).toArray 55) = x6 from HX6.out, HB6.out] at HN6
  have HW6 : Hid (Keep nob w x6) := Lib.hid ((HW5.out.then_ HK6.out).then_ HA6.out)
  rw [HX6.out, HB6.out]
  have HP6 : Hid (Keep nob w6 x6) := HA6
  have k56 := HK6.out.then_ HA6.out
  have k46 := (HK5.out.then_ HA5.out).then_ k56
  have k36 := (HK4.out.then_ HA4.out).then_ k46
  have k26 := (HK3.out.then_ HA3.out).then_ k36
  have k16 := (HK2.out.then_ HA2.out).then_ k26
  obtain ⟨a0, -, -, -, -, -, -, a7⟩ := cells_val (range_keep k16 HN1.out)
  obtain ⟨hk8, hk4, kb, ko, ea, c1, jb, jo, jc, c2, c3⟩ := v1_cells (Tr.keep (HA1.out.then_ k16) (nobD _) _ _ HT1.out)
  rw [hk8] at a0
  rw [hk4, ea] at a7
  obtain ⟨-, -, d2, -, -, -, -, -⟩ := cells_val (range_keep k46 HN4.out)
  obtain ⟨-, -, -, -, -, f5, f6, -⟩ := cells_val HN6.out
  have t4 := HT4.out
  have t6 := HT6.out
  unfold V.int at t4
  unfold Tr at t4
  unfold V.xt at t6
  unfold Tr at t6
  rw [t4.2.2.1] at d2
  rw [t6.2.2.2.2.1] at f5
  rw [t6.2.2.2.2.2.1] at f6
  have HE2' := Lib.hid (HE2.out.keep (HA2.out.then_ k26) (fun _ _ h => h))
  have HE3' := Lib.hid (HE3.out.keep (HA3.out.then_ k36) (fun _ _ h => h))
  have HF := Lib.hid (And.intro d2 (And.intro f5 f6))
  clear t4 t6 k16 k26 k36 k46 k56 hk8 hk4 ea d2 f5 f6
  go_wp2_with (fail)
  refine (isat_ok (HG.out.keep HW6.out (fun _ h => h.elim)) HE2'.out).mono ?_
  rintro e y1 ⟨rfl, hk⟩
  have HY1 := Lib.hid hk
  clear hk
  go_wp2_with (first | (go_at_call 11; go_must (refine (isat_ok ((HG.out.keep HW6.out (fun _ h => h.elim)).keep HY1.out (fun _ h => h.elim)) (HE3'.out.keep HY1.out (fun _ _ h => h))).mono ?_); rintro e y2 ⟨rfl, hk⟩; have HY2 := Lib.hid (HY1.out.then_ hk); have d2 := HY2.out.cell HF.out.1 (fun h => h); clear hk) | (go_at_call 15; go_must (refine (is_ok ((HG.out.keep HW6.out (fun _ h => h.elim)).keep HY2.out (fun _ h => h.elim))).mono ?_); rintro e y3 ⟨rfl, hk⟩; have HY3 := Lib.hid (HY2.out.then_ hk); have f5 := HY3.out.cell HF.out.2.1 (fun h => h); have f6 := HY3.out.cell HF.out.2.2 (fun h => h); clear hk))
  go_ret
  exact ⟨rfl, HW6.out.then_ HY3.out⟩
end Go.Proofs.YtiemkfibpfndaaaGreatDoor

/- What the row lays: the package's variables. -/
namespace Go.Proofs.YtiemkfibpfndaaaGreatDoor
open Go.ChangeShapes Go.WideShapes Go.RowKit

theorem star : "*" ++ "errors.errorString" = "*errors.errorString" := by decide
theorem rowE (u : TypeId) (h : Tryz.prog.typeName? 3 u = some "*errors.errorString") : u = 259 :=
  typeName_ptr_named (nm := "errors.errorString") (by rw [star]; kernel_rfl) (by kernel_rfl) (by decide) u (by rw [star]; exact h)
theorem cellsE : Tryz.prog.cellsOf 314 = 1 := by kernel_rfl
theorem cellsS : Tryz.prog.cellsOf 9 = 1 := by kernel_rfl
set_option maxRecDepth 100000 in
theorem sent1 {n : String} {text : List UInt8} {r : List (String × DataW Unit)} {W : World} {g : Nat}
    (h : laidMet Tryz.prog ((n, .iface "*errors.errorString" (.ptr (.agg [.lit (.string text)]))) :: r) W) (hg : Tryz.prog.globalNamed n = some g) (ht : (Tryz.prog.globals[g]?).map (·.type) = some 61) :
    ∃ (a : Addr) (s : ByteArray) (c : Array Value) (t : TypeId), W.cell? ⟨g, 0, none⟩ = some (.iface 259 (.pointer (some a))) ∧ W.cell? a = some (.string s) ∧ s.data.toList = text ∧ W.heap[a.block]? = some (.cells c t (0, 0)) := by
  obtain ⟨ps, ⟨g0, t0, cs0, f0, p0, q0, hg0, ht0, hv0, hd0, _, e0⟩, _, hrows⟩ := h
  obtain rfl := Option.some.inj (hg.symm.trans hg0)
  obtain rfl := Option.some.inj (ht.symm.trans ht0)
  subst e0
  obtain ⟨l0⟩ := cs0
  have ok0 : ∀ u v, l0 = [.iface u v] → Value.okWide Tryz.prog W .any 0 u v := fun u v e => by
    subst e
    exact (hrows g 0 (by simp [MemPlace.row])).2 u v (by simpa using World.var?_cell hg0 hv0 0)
  obtain ⟨a, s, rfl, hc, hs, hz, rfl⟩ := errorString_of_trod Tryz.underlying61 rowE Tryz.underlying259 Tryz.underlying314 rfl rfl Tryz.underlying9 cellsE cellsS hd0 ok0
  obtain ⟨c0, t1, hb0⟩ := (hrows a.block a.off (by simp [MemPlace.row])).1
  refine ⟨a, s, c0, t1, ?_, hc, hs, hb0⟩
  simpa using World.var?_cell hg0 hv0 0
def textE : Nat → List UInt8
  | 1 => [97, 110, 32, 97, 114, 103, 117, 109, 101, 110, 116, 32, 116, 104, 97, 116, 32, 109, 97, 121, 32, 110, 111, 116, 32, 98, 101]
  | 2 => [97, 110, 32, 111, 98, 106, 101, 99, 116, 32, 116, 104, 97, 116, 32, 105, 115, 32, 110, 111, 116, 32, 116, 104, 101, 114, 101]
  | 3 => [110, 111, 32, 100, 111, 99, 117, 109, 101, 110, 116, 32, 111, 102, 32, 105, 116, 115, 32, 102, 111, 114, 109, 97, 116]
  | 4 => [97, 32, 118, 97, 108, 117, 101, 32, 116, 104, 97, 116, 32, 116, 104, 101, 32, 102, 111, 114, 109, 97, 116, 32, 104, 97, 115, 32, 110, 111, 116]
  | 5 => [97, 32, 108, 105, 109, 105, 116]
  | 6 => [110, 111, 32, 115, 117, 99, 104, 32, 116, 104, 105, 110, 103]
  | 7 => [116, 111, 111, 32, 109, 97, 110, 121, 32, 115, 101, 115, 115, 105, 111, 110, 115]
  | 8 => [110, 111, 32, 115, 117, 99, 104, 32, 115, 101, 115, 115, 105, 111, 110]
  | 9 => [97, 110, 111, 116, 104, 101, 114, 32, 107, 101, 121]
  | 10 => [115, 116, 111, 112, 112, 101, 100]
  | _ => [110, 111, 32, 115, 99, 114, 105, 112, 116]
set_option maxRecDepth 100000 in
theorem textE_inj : ((List.range 11).all fun i => (List.range 11).all fun j => decide (i = j) || !decide (textE (i + 1) = textE (j + 1))) = true := by kernel_rfl
set_option maxRecDepth 100000 in
theorem sent_1 {W : World} (h : laidMetH Tryz.prog Rows.packreadLongRow.laid W) : ∃ (a : Addr) (s : ByteArray) (c : Array Value) (t : TypeId), W.cell? ⟨gerr 1, 0, none⟩ = some (.iface 259 (.pointer (some a))) ∧ W.cell? a = some (.string s) ∧ s.data.toList = textE 1 ∧ W.heap[a.block]? = some (.cells c t (0, 0)) := by
  have h1 : laidMetH Tryz.prog [("crucible/api.ErrArg", Rows.laid_crucible_api_ErrArg)] W := h.filter (fun x => x.1 == "crucible/api.ErrArg")
  have h2 : laidMet Tryz.prog [("crucible/api.ErrArg", Rows.laid_crucible_api_ErrArg)] W := h1
  exact sent1 h2 (g := gerr 1) (by kernel_rfl) (by kernel_rfl)
set_option maxRecDepth 100000 in
theorem sent_2 {W : World} (h : laidMetH Tryz.prog Rows.packreadLongRow.laid W) : ∃ (a : Addr) (s : ByteArray) (c : Array Value) (t : TypeId), W.cell? ⟨gerr 2, 0, none⟩ = some (.iface 259 (.pointer (some a))) ∧ W.cell? a = some (.string s) ∧ s.data.toList = textE 2 ∧ W.heap[a.block]? = some (.cells c t (0, 0)) := by
  have h1 : laidMetH Tryz.prog [("crucible/api.ErrNil", Rows.laid_crucible_api_ErrNil)] W := h.filter (fun x => x.1 == "crucible/api.ErrNil")
  have h2 : laidMet Tryz.prog [("crucible/api.ErrNil", Rows.laid_crucible_api_ErrNil)] W := h1
  exact sent1 h2 (g := gerr 2) (by kernel_rfl) (by kernel_rfl)
set_option maxRecDepth 100000 in
theorem sent_3 {W : World} (h : laidMetH Tryz.prog Rows.packreadLongRow.laid W) : ∃ (a : Addr) (s : ByteArray) (c : Array Value) (t : TypeId), W.cell? ⟨gerr 3, 0, none⟩ = some (.iface 259 (.pointer (some a))) ∧ W.cell? a = some (.string s) ∧ s.data.toList = textE 3 ∧ W.heap[a.block]? = some (.cells c t (0, 0)) := by
  have h1 : laidMetH Tryz.prog [("crucible/api.ErrInput", Rows.laid_crucible_api_ErrInput)] W := h.filter (fun x => x.1 == "crucible/api.ErrInput")
  have h2 : laidMet Tryz.prog [("crucible/api.ErrInput", Rows.laid_crucible_api_ErrInput)] W := h1
  exact sent1 h2 (g := gerr 3) (by kernel_rfl) (by kernel_rfl)
set_option maxRecDepth 100000 in
theorem sent_4 {W : World} (h : laidMetH Tryz.prog Rows.packreadLongRow.laid W) : ∃ (a : Addr) (s : ByteArray) (c : Array Value) (t : TypeId), W.cell? ⟨gerr 4, 0, none⟩ = some (.iface 259 (.pointer (some a))) ∧ W.cell? a = some (.string s) ∧ s.data.toList = textE 4 ∧ W.heap[a.block]? = some (.cells c t (0, 0)) := by
  have h1 : laidMetH Tryz.prog [("crucible/api.ErrRep", Rows.laid_crucible_api_ErrRep)] W := h.filter (fun x => x.1 == "crucible/api.ErrRep")
  have h2 : laidMet Tryz.prog [("crucible/api.ErrRep", Rows.laid_crucible_api_ErrRep)] W := h1
  exact sent1 h2 (g := gerr 4) (by kernel_rfl) (by kernel_rfl)
set_option maxRecDepth 100000 in
theorem sent_5 {W : World} (h : laidMetH Tryz.prog Rows.packreadLongRow.laid W) : ∃ (a : Addr) (s : ByteArray) (c : Array Value) (t : TypeId), W.cell? ⟨gerr 5, 0, none⟩ = some (.iface 259 (.pointer (some a))) ∧ W.cell? a = some (.string s) ∧ s.data.toList = textE 5 ∧ W.heap[a.block]? = some (.cells c t (0, 0)) := by
  have h1 : laidMetH Tryz.prog [("crucible/api.ErrLimit", Rows.laid_crucible_api_ErrLimit)] W := h.filter (fun x => x.1 == "crucible/api.ErrLimit")
  have h2 : laidMet Tryz.prog [("crucible/api.ErrLimit", Rows.laid_crucible_api_ErrLimit)] W := h1
  exact sent1 h2 (g := gerr 5) (by kernel_rfl) (by kernel_rfl)
set_option maxRecDepth 100000 in
theorem sent_6 {W : World} (h : laidMetH Tryz.prog Rows.packreadLongRow.laid W) : ∃ (a : Addr) (s : ByteArray) (c : Array Value) (t : TypeId), W.cell? ⟨gerr 6, 0, none⟩ = some (.iface 259 (.pointer (some a))) ∧ W.cell? a = some (.string s) ∧ s.data.toList = textE 6 ∧ W.heap[a.block]? = some (.cells c t (0, 0)) := by
  have h1 : laidMetH Tryz.prog [("crucible/api.ErrNone", Rows.laid_crucible_api_ErrNone)] W := h.filter (fun x => x.1 == "crucible/api.ErrNone")
  have h2 : laidMet Tryz.prog [("crucible/api.ErrNone", Rows.laid_crucible_api_ErrNone)] W := h1
  exact sent1 h2 (g := gerr 6) (by kernel_rfl) (by kernel_rfl)
set_option maxRecDepth 100000 in
theorem sent_7 {W : World} (h : laidMetH Tryz.prog Rows.packreadLongRow.laid W) : ∃ (a : Addr) (s : ByteArray) (c : Array Value) (t : TypeId), W.cell? ⟨gerr 7, 0, none⟩ = some (.iface 259 (.pointer (some a))) ∧ W.cell? a = some (.string s) ∧ s.data.toList = textE 7 ∧ W.heap[a.block]? = some (.cells c t (0, 0)) := by
  have h1 : laidMetH Tryz.prog [("crucible/api.ErrBusy", Rows.laid_crucible_api_ErrBusy)] W := h.filter (fun x => x.1 == "crucible/api.ErrBusy")
  have h2 : laidMet Tryz.prog [("crucible/api.ErrBusy", Rows.laid_crucible_api_ErrBusy)] W := h1
  exact sent1 h2 (g := gerr 7) (by kernel_rfl) (by kernel_rfl)
set_option maxRecDepth 100000 in
theorem sent_8 {W : World} (h : laidMetH Tryz.prog Rows.packreadLongRow.laid W) : ∃ (a : Addr) (s : ByteArray) (c : Array Value) (t : TypeId), W.cell? ⟨gerr 8, 0, none⟩ = some (.iface 259 (.pointer (some a))) ∧ W.cell? a = some (.string s) ∧ s.data.toList = textE 8 ∧ W.heap[a.block]? = some (.cells c t (0, 0)) := by
  have h1 : laidMetH Tryz.prog [("crucible/api.ErrHandle", Rows.laid_crucible_api_ErrHandle)] W := h.filter (fun x => x.1 == "crucible/api.ErrHandle")
  have h2 : laidMet Tryz.prog [("crucible/api.ErrHandle", Rows.laid_crucible_api_ErrHandle)] W := h1
  exact sent1 h2 (g := gerr 8) (by kernel_rfl) (by kernel_rfl)
set_option maxRecDepth 100000 in
theorem sent_9 {W : World} (h : laidMetH Tryz.prog Rows.packreadLongRow.laid W) : ∃ (a : Addr) (s : ByteArray) (c : Array Value) (t : TypeId), W.cell? ⟨gerr 9, 0, none⟩ = some (.iface 259 (.pointer (some a))) ∧ W.cell? a = some (.string s) ∧ s.data.toList = textE 9 ∧ W.heap[a.block]? = some (.cells c t (0, 0)) := by
  have h1 : laidMetH Tryz.prog [("crucible/api.ErrKey", Rows.laid_crucible_api_ErrKey)] W := h.filter (fun x => x.1 == "crucible/api.ErrKey")
  have h2 : laidMet Tryz.prog [("crucible/api.ErrKey", Rows.laid_crucible_api_ErrKey)] W := h1
  exact sent1 h2 (g := gerr 9) (by kernel_rfl) (by kernel_rfl)
set_option maxRecDepth 100000 in
theorem sent_10 {W : World} (h : laidMetH Tryz.prog Rows.packreadLongRow.laid W) : ∃ (a : Addr) (s : ByteArray) (c : Array Value) (t : TypeId), W.cell? ⟨gerr 10, 0, none⟩ = some (.iface 259 (.pointer (some a))) ∧ W.cell? a = some (.string s) ∧ s.data.toList = textE 10 ∧ W.heap[a.block]? = some (.cells c t (0, 0)) := by
  have h1 : laidMetH Tryz.prog [("crucible/api.ErrStopped", Rows.laid_crucible_api_ErrStopped)] W := h.filter (fun x => x.1 == "crucible/api.ErrStopped")
  have h2 : laidMet Tryz.prog [("crucible/api.ErrStopped", Rows.laid_crucible_api_ErrStopped)] W := h1
  exact sent1 h2 (g := gerr 10) (by kernel_rfl) (by kernel_rfl)
set_option maxRecDepth 100000 in
theorem sent_11 {W : World} (h : laidMetH Tryz.prog Rows.packreadLongRow.laid W) : ∃ (a : Addr) (s : ByteArray) (c : Array Value) (t : TypeId), W.cell? ⟨gerr 11, 0, none⟩ = some (.iface 259 (.pointer (some a))) ∧ W.cell? a = some (.string s) ∧ s.data.toList = textE 11 ∧ W.heap[a.block]? = some (.cells c t (0, 0)) := by
  have h1 : laidMetH Tryz.prog [("crucible/api.ErrScript", Rows.laid_crucible_api_ErrScript)] W := h.filter (fun x => x.1 == "crucible/api.ErrScript")
  have h2 : laidMet Tryz.prog [("crucible/api.ErrScript", Rows.laid_crucible_api_ErrScript)] W := h1
  exact sent1 h2 (g := gerr 11) (by kernel_rfl) (by kernel_rfl)
end Go.Proofs.YtiemkfibpfndaaaGreatDoor
