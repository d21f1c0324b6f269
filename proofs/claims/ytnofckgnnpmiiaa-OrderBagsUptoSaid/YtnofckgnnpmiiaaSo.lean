/- Sort at the type Item. -/
import Derived.Test.YtnofckgnnpmiiaaFr
import Derived.Test.YtnofckgnnpmiiaaCl
import Derived.Test.YtnofckgnnpmiiaaMg
namespace Go.Proofs.Ytnofckgnnpmiiaa
open Go.RowKit Go.Shelf
attribute [local go_sem ↓] Go.wp_at_zero Go.wp_at_succ
attribute [local go_sem] Oper.semAt_some

/-- how far the runs still have to grow: off the box that the frame points to -/
def sortMu (len : Nat) (a : Act) (W : World) : Nat := len - (match a.tmps.getD 7 undef with | .pointer (some p) => (intOf ((W.cell? p).getD undef)).toNat | _ => 0)

theorem sortMu_eq (len : Nat) {a : Act} {W : World} {b z : Nat} (h : a.tmps.getD 7 undef = .pointer (some ⟨b, 0, none⟩)) (hc : W.cell? ⟨b, 0, none⟩ = some (.int .i64 (z : Int))) : sortMu len a W = len - z := by
  unfold sortMu
  rw [h]
  simp only [hc, Option.getD_some, intOf, Int.toNat_natCast]

set_option maxRecDepth 100000 in
set_option maxHeartbeats 1000000 in
theorem sort_any {c : Item → Item → Int} {f : Value} {B : Nat} {S : Nat → Prop} {I : Nat → World → Prop} (hcmp : CmpOk Try.prog EI f c B S I)
   (A : Option Addr) (ca n : Nat) (xs : List Item) (w : World) (hB : B ≤ w.heap.size) (h : Sl EI w A ca xs) (hl : xs.length ≤ 1000000000) (hI : I n w) :
    Calls Try.prog 14 #[.slice A xs.length ca, f] w (SortPost EI c S I n w xs) := by
  obtain ⟨k, first, cap, rfl, eg, hcall⟩ := hcmp.fn
  have HC := Lib.hid hcmp
  have HK := Lib.hid hcall
  have H := Lib.hid h
  have HI := Lib.hid hI
  clear hcmp hcall h hI
  have he := fun (w : World) => run_eql_func_nil (P := Try.prog) w 28 Try.underlying28 (.func k) first cap
  refine calls_of_marks Try.func14 rfl ?_
  simp only [Try.ntmps14, List.size_toArray, List.length_cons, List.length_nil, Nat.reduceAdd, Nat.reduceSub, Array.replicate_succ, Array.replicate_zero, List.push_toArray, List.append_toArray, List.nil_append, List.cons_append]
  have HL := Lib.hid hl
  clear hl
  go_wp2_with (first
    | (go_at_call 51; refine (clone_any A ca xs _ (H.out.below ((Below.refl _ _).alloc (Nat.le_refl _) _)) HL.out).mono ?_; rintro e w1 ⟨O, co, rfl, ho, hk, hf⟩; have HO := Lib.hid ho; have HK1 := Lib.hid hk; have HF := Lib.hid hf; clear ho hk hf)
    | (at_make; refine wpList_make_E EI rfl _ _ 22 rfl 27 _ 16 Try.underlying22 info27 xs.length xs.length _ _ rfl rfl rfl rfl (Nat.le_refl _) (by have := HL.out; omega) (by have := HL.out; omega) ?_; intro w2 HW2))
  have HSI : Hid (SI EI c S I n w (.func (.func k) first cap) w.heap.size w1.heap.size w2.heap.size (w2.heap.size + 1) 0 xs O co (some ⟨w1.heap.size + 1, 0, none⟩) xs.length []
      ((w2.alloc (.cells #[.slice (some ⟨w1.heap.size + 1, 0, none⟩) xs.length xs.length] 22)).alloc (.cells #[.int .i64 1] 3))) := by
    exact SI.start w w1 w2 _ n xs HO.out HK1.out HF.out (.agg #[.int .i64 0, .int .i64 0]) 22 27 3 HW2.out hB HC.out.stable HI.out (by have := HL.out; omega)
  clear HW2 HK1 HO HF H HI
  generalize hW : ((w2.alloc (.cells #[.slice (some ⟨w1.heap.size + 1, 0, none⟩) xs.length xs.length] 22)).alloc (.cells #[.int .i64 1] 3)) = W at HSI ⊢
  clear hW
  generalize w1.heap.size + 1 = bs0 at HSI ⊢
  generalize w.heap.size = b3 at HSI ⊢
  generalize w1.heap.size = b5 at HSI ⊢
  generalize w2.heap.size + 1 = b7 at HSI ⊢
  generalize w2.heap.size = b6 at HSI ⊢
  clear w1 w2
  generalize (Value.slice O xs.length co) = s14
  generalize (Value.slice (some ⟨bs0, 0, none⟩) xs.length xs.length) = s17
  refine wp_loop (fun a W => ∃ (p b7 : Nat) (O Pa : Option Addr) (co cs : Nat) (Ds : List Nat) (u18 u19 u20 u21 u22 u23 u24 u25 u26 u27 u28 u50 u51 u52 : Value),
      a = { tmps := #[.slice A xs.length ca, .func (.func k) first cap, undef, .pointer (some ⟨b3, 0, none⟩), .slice none 0 0, .pointer (some ⟨b5, 0, none⟩), .pointer (some ⟨b6, 0, none⟩), .pointer (some ⟨b7, 0, none⟩), undef, undef, undef, .func (.func k) first cap, .bool false, .slice A xs.length ca, s14, .slice A xs.length ca, .int .i64 (xs.length : Int), s17, u18, u19, u20, u21, u22, u23, u24, u25, u26, u27, u28, undef, undef, undef, undef, undef, undef, undef, undef, undef, undef, undef, undef, undef, undef, undef, undef, undef, undef, undef, undef, undef, u50, u51, u52, undef], defers := marks Ds } ∧ Hid (SI EI c S I n w (.func (.func k) first cap) b3 b5 b6 b7 p xs O co Pa cs Ds W)) (sortMu xs.length) ?_ (fun a W hinv => ?_)
  · exact ⟨0, b7, O, _, co, _, [], _, _, _, _, _, _, _, _, _, _, _, _, _, _, rfl, HSI⟩
  clear HSI O co bs0 b7
  obtain ⟨p, b7, O, Pa, co, cs, Ds, u18, u19, u20, u21, u22, u23, u24, u25, u26, u27, u28, u50, u51, u52, rfl, HR⟩ := hinv
  have hc3 := HR.out.c3
  have hc5 := HR.out.c5
  have hc6 := HR.out.c6
  have hc7 := HR.out.c7
  by_cases hlt : 2 ^ p < xs.length
  · obtain ⟨m, HM⟩ : ∃ m, Hid (2 ^ p = m) := ⟨_, Lib.hid rfl⟩
    rw [HM.out] at hlt hc7
    have hm1 : m ≤ 1000000000 := by have := HL.out; omega
    go_wp2_with (go_at_call 52; refine (blocks_any _ _ _).mono ?_; rintro e w' ⟨rfl, rfl⟩)
    obtain ⟨ys, HY⟩ : ∃ ys, Hid (stepsL c xs p = ys) := ⟨_, Lib.hid rfl⟩
    have hyl : Hid (ys.length = xs.length) := by unfold Hid; rw [← HY.out]; exact stepsL_len c xs p
    obtain ⟨bs, os, rfl, hroom⟩ : ∃ bs os, Pa = some ⟨bs, os, none⟩ ∧ Hid (W.there bs os (xs.length * EI.sz)) := by
      obtain ⟨hz, ho⟩ := HR.out.sp
      obtain ⟨b, o, e, ht⟩ := ho.room (by omega)
      exact ⟨b, o, e, Lib.hid (there_sub ht (Nat.le_refl _) (Nat.add_le_add_left (Nat.mul_le_mul_right _ hz) _))⟩
    have HNS : Hid (∀ k, S k → k < w.heap.size) := fun k hk => Nat.lt_of_lt_of_le (HC.out.old k hk) hB
    have HB : Hid (¬ S bs ∧ ¬ (S b3 ∨ b3 = bs) ∧ ¬ (S b5 ∨ b5 = bs) ∧ ¬ (S b6 ∨ b6 = bs) ∧ ¬ (S b7 ∨ b7 = bs) ∧ bs < W.heap.size ∧ w.heap.size ≤ bs) := by
      have hp := HR.out.fP _ rfl
      have hn := HR.out.nP
      obtain ⟨o3, o5, o6, o7⟩ := HR.out.ob
      have e3 : bs ≠ b3 := fun e => hn ⟨_, rfl, .inl e⟩
      have e5 : bs ≠ b5 := fun e => hn ⟨_, rfl, .inr (.inl e)⟩
      have e6 : bs ≠ b6 := fun e => hn ⟨_, rfl, .inr (.inr (.inl e))⟩
      have e7 : bs ≠ b7 := fun e => hn ⟨_, rfl, .inr (.inr (.inr e))⟩
      have ns : ∀ k, w.heap.size ≤ k → ¬ S k := fun k hk h => by have := HNS.out k h; omega
      refine ⟨ns _ hp, fun h => h.elim (ns _ o3) (fun e => e3 e.symm), fun h => h.elim (ns _ o5) (fun e => e5 e.symm), fun h => h.elim (ns _ o6) (fun e => e6 e.symm), fun h => h.elim (ns _ o7) (fun e => e7 e.symm), ?_, hp⟩
      obtain ⟨u, hu⟩ := Option.isSome_iff_exists.1 (hroom.out 0 (Nat.mul_pos (by omega) EI.pos)).1
      exact World.block_lt_of_cell? W _ hu
    have HOB : Hid (¬ InB (fun k => S k ∨ k = bs) O) := fun ⟨a, ha, hk⟩ => by
      rcases hk with hk | hk
      · have := HNS.out _ hk; have := HR.out.fO a ha; omega
      · exact HR.out.nOP ⟨a, ha, _, rfl, hk.symm⟩
    obtain ⟨q, hq, hIq⟩ := HR.out.q
    have HIQ := Lib.hid hIq
    clear hIq
    have hpc : xs.length ≤ cs := HR.out.sp.1
    have hBW : B ≤ W.heap.size := Nat.le_trans hB HR.out.keep.size
    obtain ⟨W1, HW1⟩ : ∃ W1, Hid (((W.alloc (.cells #[.int .i64 (xs.length : Int)] 3)).alloc (.cells #[.int .i64 (2 * (m : Int))] 3)) = W1) := ⟨_, Lib.hid rfl⟩
    have HK1 : Hid (Keep (fun _ => False) W W1) := by rw [← HW1.out]; exact ((Keep.refl _ W).alloc _).alloc _
    have hsz : Hid (W1.heap.size = W.heap.size + 2) := by unfold Hid; rw [← HW1.out]; simp
    have hbn : Hid (W1.cell? ⟨W.heap.size, 0, none⟩ = some (.int .i64 (xs.length : Int))) := by unfold Hid; rw [← HW1.out]; simp
    have hbs : Hid (W1.cell? ⟨W.heap.size + 1, 0, none⟩ = some (.int .i64 ((2 * m : Nat) : Int))) := by
      unfold Hid; rw [← HW1.out, Int.natCast_mul]
      simp
    have HPI : Hid (PI EI c S I (n + q) m b3 b5 b6 b7 (.func (.func k) first cap) O co bs os cs xs.length ys W1 [] W1) := by
      have hk := HK1.out
      refine ⟨hk.cell hc3 (fun h => h), hyl.out, hk.cell hc5 (fun h => h), hk.cell hc6 (fun h => h), hk.cell hc7 (fun h => h), ?_, hk.there hroom.out (fun h => h), fun j hj => by simp at hj, Keep.refl _ _, fun _ _ h => h, 0, by simp [cost], ?_⟩
      · rw [← HY.out]; exact HR.out.oo.sl.keep hk (fun ⟨_, _, h⟩ => h)
      · exact HC.out.stable _ _ _ HIQ.out (hk.below hBW (fun _ _ h => h))
    rw [HW1.out]
    clear HW1
    refine wp_of_wide 9 (wpIn_rangeFunc_ownG (F := Fence.wide) (encs := Pc.enc) rfl (by decide) (gf := 76) (lb := #[.pointer (some ⟨W.heap.size, 0, none⟩), .pointer (some ⟨W.heap.size + 1, 0, none⟩)]) rfl trivial (enters_of Try.func76 (by kernel_rfl) rfl)
      (blocks_stops 8 W.heap.size (W.heap.size + 1) xs.length (2 * m) (by decide) (by have := HL.out; omega) (by omega) (by have := Nat.one_le_two_pow (n := p); have := HM.out; omega) W1 (by rw [hsz.out]; omega) (by rw [hsz.out]; omega) hbn.out hbs.out)
      KeepTwo.trans (fun W2 l o o' hl h h1 h2 => KeepTwo.putObj (a := W.heap.size) (b := W.heap.size + 1) (B := W1.heap.size) (by rw [hsz.out]; omega) (by rw [hsz.out]; omega) W2 l o o' hl h h1 h2) (Below.refl _ _) (fun _ => rfl)
      (PI EI c S I (n + q) m b3 b5 b6 b7 (.func (.func k) first cap) O co bs os cs xs.length ys W1) (fun _ _ _ => False) (PI.own (Nat.le_trans hBW HK1.out.size) HC.out.stable) (fun _ _ _ _ _ h _ _ => h) HPI.out
      (fun j => { tmps := #[.slice A xs.length ca, .func (.func k) first cap, undef, .pointer (some ⟨b3, 0, none⟩), .slice none 0 0, .pointer (some ⟨b5, 0, none⟩), .pointer (some ⟨b6, 0, none⟩), .pointer (some ⟨b7, 0, none⟩), .int .i64 (j.fr : Int), .int .i64 (j.to : Int), undef, .func (.func k) first cap, .bool false, .slice A xs.length ca, s14, .slice A xs.length ca, .int .i64 (xs.length : Int), s17, .int .i64 (m : Int), .slice A xs.length ca, .int .i64 (xs.length : Int), .bool true, u22, u23, .slice A xs.length ca, .int .i64 (xs.length : Int), .int .i64 (m : Int), .int .i64 (2 * (m : Int)), .func (.func 76) #[] #[.pointer (some ⟨W.heap.size, 0, none⟩), .pointer (some ⟨W.heap.size + 1, 0, none⟩)], .int .i64 (j.fr : Int), .int .i64 (j.to : Int), undef, undef, undef, undef, undef, undef, undef, undef, undef, undef, undef, undef, undef, undef, undef, undef, undef, undef, undef, u50, u51, u52, undef], defers := [] }) ?assign ?body ?done ?stop)
    case stop => exact fun _ _ _ _ _ _ h _ => h.elim
    case assign =>
      intro l j W2 K hK
      unfold Pc.enc
      gi_wp2
      exact hK
    case body =>
      intro l pre j W2 hI hlen
      have h3 := hI.c3
      have h5 := hI.c5
      have h6 := hI.c6
      have h7 := hI.c7
      have HI2 := Lib.hid hI
      obtain ⟨bo, oo, rfl⟩ : ∃ bo oo, O = some ⟨bo, oo, none⟩ := by
        obtain ⟨b, o, hA, _⟩ := hI.so.at_ (by intro e; have := hyl.out; rw [e] at this; simp at this; omega)
        exact ⟨b, o, hA⟩
      have hco := hI.so.le
      rw [hyl.out] at hco
      have hcc := hI.so.cap
      clear hI hlen
      obtain ⟨f1, f2, f3, f4⟩ := j.to_fr
      have HFR : Hid (j.fr = j.1 * (2 * m)) := Lib.hid rfl
      rw [← HFR.out] at f1
      have HAt : Hid (mergedAt c m ys j.1 = mergeL c ((ys.drop j.fr).take m) ((ys.drop (j.fr + m)).take m)) := Lib.hid rfl
      generalize hfr : j.fr = fr at f1 f2 f3 f4 HAt ⊢
      generalize hto : j.to = to at f1 f2 f3 f4 ⊢
      have HF1 := Lib.hid hfr
      have HF2 := Lib.hid hto
      have HF3 := Lib.hid f1
      clear hfr hto f1 HFR
      obtain ⟨q1, hq1, hI1⟩ := HI2.out.q
      have HI1 := Lib.hid hI1
      clear hI1
      obtain ⟨mid, hm1, hm2⟩ : ∃ mid, (fr + m ≤ to ∧ mid = fr + m ∨ to < fr + m ∧ mid = to) ∧ Hid (mid = if fr + m ≤ to then fr + m else to) := by
        by_cases h : fr + m ≤ to
        · exact ⟨fr + m, .inl ⟨h, rfl⟩, by unfold Hid; rw [if_pos h]⟩
        · exact ⟨to, .inr ⟨by omega, rfl⟩, by unfold Hid; rw [if_neg h]⟩
      obtain ⟨al, HAL0⟩ : ∃ al, Hid (al = (ys.drop fr).take m) := ⟨_, Lib.hid rfl⟩
      obtain ⟨bl, HBL0⟩ : ∃ bl, Hid (bl = (ys.drop (fr + m)).take m) := ⟨_, Lib.hid rfl⟩
      have hto : Hid (to = fr + min (2 * m) (xs.length - fr)) := by unfold Hid; have := HF3.out; omega
      have HAL : Hid (al = (ys.drop fr).take (mid - fr) ∧ mid - fr = al.length) := by
        have hy := hyl.out
        have ht := hto.out
        have e1 : mid - fr = al.length := by rw [HAL0.out, List.length_take, List.length_drop, hy]; omega
        refine ⟨?_, e1⟩
        rw [e1, HAL0.out, List.take_eq_take_iff, List.length_take]
        omega
      have HBL : Hid (bl = (ys.drop mid).take (to - mid) ∧ to - mid = bl.length) := by
        have hy := hyl.out
        have ht := hto.out
        have e1 : to - mid = bl.length := by rw [HBL0.out, List.length_take, List.length_drop, hy]; omega
        refine ⟨?_, e1⟩
        rcases hm1 with ⟨h1, h2⟩ | ⟨h1, h2⟩
        · rw [e1, HBL0.out, h2, List.take_eq_take_iff, List.length_take]; omega
        · have : bl = [] := List.eq_nil_of_length_eq_zero (by omega)
          rw [this, h2, Nat.sub_self, List.take_zero]
      obtain ⟨A1, HA1⟩ : ∃ A1, Hid (cutA (some ⟨bo, oo, none⟩) co fr EI.sz = A1) := ⟨_, Lib.hid rfl⟩
      obtain ⟨A2, HA2⟩ : ∃ A2, Hid (cutA (some ⟨bo, oo, none⟩) co mid EI.sz = A2) := ⟨_, Lib.hid rfl⟩
      have HS1 : Hid (Sl EI W2 A1 (co - fr) al) := by rw [← HA1.out, HAL.out.1]; exact (HI2.out.so.drop (k := fr) (by rw [hyl.out]; omega)).take _
      have HS2 : Hid (Sl EI W2 A2 (co - mid) bl) := by rw [← HA2.out, HBL.out.1]; exact (HI2.out.so.drop (k := mid) (by rw [hyl.out]; omega)).take _
      have HN1 : Hid (¬ InB (fun k => S k ∨ k = bs) A1) := by rw [← HA1.out]; exact inB_cutA HOB.out
      have HN2 : Hid (¬ InB (fun k => S k ∨ k = bs) A2) := by rw [← HA2.out]; exact inB_cutA HOB.out
      have hal : al.length + bl.length = to - fr := by have := HAL.out.2; have := HBL.out.2; omega
      have HML : Hid ((mergedAt c m ys j.1).length = al.length + bl.length) := by rw [HAt.out, ← HAL0.out, ← HBL0.out]; exact mergeL_len c al bl
      have HTH : Hid (W2.drew.there bs (os + fr * EI.sz) ((al.length + bl.length) * EI.sz)) := by
        refine (Keep.there (S := fun _ => False) ((Keep.refl _ W2).drew) (there_sub HI2.out.th (by omega) ?_) (fun h => h))
        rw [Nat.add_assoc, ← Nat.add_mul]
        exact Nat.add_le_add_left (Nat.mul_le_mul_right _ (by omega)) _
      have hcap : al.length + bl.length ≤ cs - fr := by omega
      have HFIN : Hid (∀ w' q2, q2 ≤ al.length + bl.length → w'.rangeAt bs (os + fr * EI.sz) (EI.flat (mergeL c al bl)) → Fill S bs (os + fr * EI.sz) ((al.length + bl.length) * EI.sz) W2.drew w' → I (n + q + q1 + q2) w' →
          KeepsFrom W1.heap.size W2 w' ∧ KeepTwo W.heap.size (W.heap.size + 1) W2 w' ∧ PI EI c S I (n + q) m b3 b5 b6 b7 (.func (.func k) first cap) (some ⟨bo, oo, none⟩) co bs os cs xs.length ys W1 (pre ++ [j]) w') := by
        intro w' q2 hq2 hr hf hI'
        have hf' := hf.of_drew
        obtain ⟨g1, g2, g3, g4, g5, g6, g7⟩ := HB.out
        have hle : W1.heap.size ≤ W2.heap.size := HI2.out.keep.size
        have hkeep : ∀ k, w.heap.size ≤ k → k ≠ bs → k < W2.heap.size → w'.heap[k]? = W2.heap[k]? := fun k hk hne hlt => hf'.keep.block k hlt (fun h => h.elim (fun h => by have := HNS.out k h; omega) hne)
        have hWw : w.heap.size ≤ W.heap.size := HR.out.keep.size
        refine ⟨⟨hf'.keep.size, fun k o hk ho _ => ?_⟩, ⟨hf'.keep.size, hkeep _ hWw (by omega) (by have := hsz.out; omega), hkeep _ (by omega) (by omega) (by have := hsz.out; omega)⟩, ?_⟩
        · rw [hkeep k (by have := hsz.out; omega) (by have := hsz.out; omega) (Array.getElem?_eq_some_iff.1 ho).1]; exact ho
        · refine HI2.out.round j g2 g3 g4 g5 HOB.out ?_ ?_ hq1 (p := q2) (by rw [HML.out]; exact hq2) hI'
          · rw [HF1.out, HAt.out, ← HAL0.out, ← HBL0.out]; exact hr
          · rw [HF1.out, HML.out]; exact hf'
      clear HAL0 HBL0 hm2
      have hfm : fr + m ≤ 2000000000 := by have := HL.out; omega
      rcases hm1 with ⟨hmid, hmm⟩ | ⟨hmid, hmm⟩
      · rw [hmm] at HAL HBL HA2 HS2
        clear hmm
        have s1 : ∀ w, (Instr.slice 22 (.slice (some ⟨bs, os, none⟩) xs.length cs) (some (.int .i64 (fr : Int))) (some (.int .i64 (fr : Int))) none).run Try.prog w = .ok (.slice (some ⟨bs, os + fr * EI.sz, none⟩) 0 (cs - fr)) w := fun w => by
          rw [run_slice_lh w 22 27 EI.sz Try.underlying22 (by kernel_rfl) _ _ _ fr fr _ _ rfl rfl (Nat.le_refl _) (by omega), cutA, if_neg (by omega), Option.map_some, Addr.add_mid, Nat.sub_self]
        have s2 : ∀ w, (Instr.slice 22 (.slice (some ⟨bo, oo, none⟩) xs.length co) (some (.int .i64 (fr : Int))) (some (.int .i64 ((fr : Int) + (m : Int)))) none).run Try.prog w = .ok (.slice A1 al.length (co - fr)) w := fun w => by
          rw [run_slice_lh w 22 27 EI.sz Try.underlying22 (by kernel_rfl) _ _ _ fr (fr + m) _ _ rfl (by simp) (by omega) (by omega), HA1.out, HAL.out.2]
        have s3 : ∀ w, (Instr.slice 22 (.slice (some ⟨bo, oo, none⟩) xs.length co) (some (.int .i64 ((fr : Int) + (m : Int)))) (some (.int .i64 (to : Int))) none).run Try.prog w = .ok (.slice A2 bl.length (co - (fr + m))) w := fun w => by
          rw [run_slice_lh w 22 27 EI.sz Try.underlying22 (by kernel_rfl) _ _ _ (fr + m) to _ _ (by simp) rfl (by omega) (by omega), HA2.out, HBL.out.2]
        gi_wp2_with (fail)
        refine wpIn_region_still_tail 13 (by kernel_rfl) (by kernel_rfl) (by kernel_rfl) (fun ⟨_, _, h⟩ => h.elim) ?_
        simp only [List.take_succ_cons, List.take_zero, List.drop_succ_cons, List.drop_zero]
        repeat still_step
        refine wpStill_nil ?_
        clear s1 s2 s3
        go_wp2_with (go_at_call 53; go_must (refine (merge_any HC.out A1 A2 (co - fr) (co - (fr + m)) bs (os + fr * EI.sz) (cs - fr) (n + q + q1) al bl W2.drew (Nat.le_trans hBW (Nat.le_trans HK1.out.size HI2.out.keep.size)) (Nat.le_trans hB HB.out.2.2.2.2.2.2) (HS1.out.below (Below.drew (Below.refl _ _))) (HS2.out.below (Below.drew (Below.refl _ _))) HN1.out HN2.out HTH.out hcap (HC.out.stable _ _ W2.drew HI1.out (Below.drew (Below.refl _ _)))).mono ?_); rintro e w' ⟨rfl, hr, hf, q2, hq2, hI2⟩; have HR1 := Lib.hid hr; have HF := Lib.hid hf; have HI3 := Lib.hid hI2; clear hr hf hI2)
        exact HFIN.out w' q2 hq2 HR1.out HF.out HI3.out
      · rw [hmm] at HAL HBL HA2 HS2
        clear hmm
        have s1 : ∀ w, (Instr.slice 22 (.slice (some ⟨bs, os, none⟩) xs.length cs) (some (.int .i64 (fr : Int))) (some (.int .i64 (fr : Int))) none).run Try.prog w = .ok (.slice (some ⟨bs, os + fr * EI.sz, none⟩) 0 (cs - fr)) w := fun w => by
          rw [run_slice_lh w 22 27 EI.sz Try.underlying22 (by kernel_rfl) _ _ _ fr fr _ _ rfl rfl (Nat.le_refl _) (by omega), cutA, if_neg (by omega), Option.map_some, Addr.add_mid, Nat.sub_self]
        have s2 : ∀ w, (Instr.slice 22 (.slice (some ⟨bo, oo, none⟩) xs.length co) (some (.int .i64 (fr : Int))) (some (.int .i64 ((to : Int)))) none).run Try.prog w = .ok (.slice A1 al.length (co - fr)) w := fun w => by
          rw [run_slice_lh w 22 27 EI.sz Try.underlying22 (by kernel_rfl) _ _ _ fr (to) _ _ rfl rfl (by omega) (by omega), HA1.out, HAL.out.2]
        have s3 : ∀ w, (Instr.slice 22 (.slice (some ⟨bo, oo, none⟩) xs.length co) (some (.int .i64 ((to : Int)))) (some (.int .i64 (to : Int))) none).run Try.prog w = .ok (.slice A2 bl.length (co - (to))) w := fun w => by
          rw [run_slice_lh w 22 27 EI.sz Try.underlying22 (by kernel_rfl) _ _ _ (to) to _ _ rfl rfl (by omega) (by omega), HA2.out, HBL.out.2]
        gi_wp2_with (fail)
        refine wpIn_region_still_tail 13 (by kernel_rfl) (by kernel_rfl) (by kernel_rfl) (fun ⟨_, _, h⟩ => h.elim) ?_
        simp only [List.take_succ_cons, List.take_zero, List.drop_succ_cons, List.drop_zero]
        repeat still_step
        refine wpStill_nil ?_
        clear s1 s2 s3
        go_wp2_with (go_at_call 53; go_must (refine (merge_any HC.out A1 A2 (co - fr) (co - (to)) bs (os + fr * EI.sz) (cs - fr) (n + q + q1) al bl W2.drew (Nat.le_trans hBW (Nat.le_trans HK1.out.size HI2.out.keep.size)) (Nat.le_trans hB HB.out.2.2.2.2.2.2) (HS1.out.below (Below.drew (Below.refl _ _))) (HS2.out.below (Below.drew (Below.refl _ _))) HN1.out HN2.out HTH.out hcap (HC.out.stable _ _ W2.drew HI1.out (Below.drew (Below.refl _ _)))).mono ?_); rintro e w' ⟨rfl, hr, hf, q2, hq2, hI2⟩; have HR1 := Lib.hid hr; have HF := Lib.hid hf; have HI3 := Lib.hid hI2; clear hr hf hI2)
        exact HFIN.out w' q2 hq2 HR1.out HF.out HI3.out
    case done =>
      intro D js W3 hD hall hI hDe
      have h3 := hI.c3
      have h5 := hI.c5
      have h6 := hI.c6
      have h7 := hI.c7
      have HI3 := Lib.hid hI
      have HDe := Lib.hid hDe
      have HAll := Lib.hid hall
      clear hI hDe hall
      have HT3 : Hid (W3.there b5 0 1 ∧ W3.there b6 0 1 ∧ W3.there b7 0 1) := by
        obtain ⟨g1, g2, g3, g4, g5, g6, g7⟩ := HB.out
        exact ⟨HI3.out.keep.there (HK1.out.there HR.out.t5 (fun h => h)) g3, HI3.out.keep.there (HK1.out.there HR.out.t6 (fun h => h)) g4, HI3.out.keep.there (HK1.out.there HR.out.t7 (fun h => h)) g5⟩
      have hf5 : W3.frozen? ⟨b5, 0, none⟩ = false := (HT3.out.1 0 (by decide)).2
      have hf6 : W3.frozen? ⟨b6, 0, none⟩ = false := (HT3.out.2.1 0 (by decide)).2
      have n56 : ¬ b5 = b6 := HR.out.ne.2.2.2.1
      have n57 : ¬ b5 = b7 := HR.out.ne.2.2.2.2.1
      have n67 : ¬ b6 = b7 := HR.out.ne.2.2.2.2.2
      go_wp2
      have em := HM.out
      subst em
      have ey := HY.out
      subst ey
      have HN := HR.out.next hB HNS.out HC.out.stable hlt HK1.out hq HI3.out HAll.out hD HDe.out
      refine ⟨⟨p + 1, W3.heap.size, some ⟨bs, os, none⟩, O, cs, co, D :: Ds, _, _, _, _, _, _, _, _, _, _, _, _, _, _, rfl, HN⟩, ?_⟩
      rw [sortMu_eq xs.length rfl HN.c7, sortMu_eq xs.length rfl HR.out.c7, Nat.pow_succ]
      have hp1 := Nat.one_le_two_pow (n := p)
      omega
  · have hlt' : ¬ (((2 ^ p : Nat) : Int) < (xs.length : Int)) := by omega
    go_wp2
    refine leaves_marks Ds W HR.out.nd (fun D hD => (HR.out.ds D hD).2) (fun W' k1 k2 => ⟨_, results_tmp rfl _ _ _, O, co, p, rfl, k2.ow HR.out.oo, by omega, HR.out.low, HR.out.fO, ?_, ?_⟩)
    · exact HR.out.keep.trans k1 (fun k hk hm => absurd (HR.out.ds k hm).1 (by omega))
    · obtain ⟨q, hq, hI⟩ := HR.out.q
      refine ⟨q, hq, HC.out.stable _ _ _ hI (k1.below (Nat.le_trans hB HR.out.keep.size) (fun k hk hm => ?_))⟩
      have := (HR.out.ds k hm).1
      omega
end Go.Proofs.Ytnofckgnnpmiiaa
