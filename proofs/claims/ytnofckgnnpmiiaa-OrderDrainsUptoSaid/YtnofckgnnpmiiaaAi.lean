/- All: a bag's iterator tells the elements in order; what a round may write meanwhile. -/
import Derived.Test.YtnofckgnnpmiiaaBk
import Derived.Test.YtnofckgnnpmiiaaSoH
namespace Go.Proofs.Ytnofckgnnpmiiaa
open Go.RowKit Go.Shelf
attribute [local go_sem] Oper.semAt_some

/-- what a round may write: T's blocks, and the block of the slice that lies in cell j of block b -/
def Wr (T : Nat → Prop) (b j : Nat) (W : World) (k : Nat) : Prop := T k ∨ ∃ A n c, W.cell? ⟨b, j, none⟩ = some (.slice A n c) ∧ AtB A k
/-- no more was written -/
structure RW (T : Nat → Prop) (b j : Nat) (W W' : World) : Prop where
  size : W.heap.size ≤ W'.heap.size
  block : ∀ (k : Nat) (o : Obj), W.heap[k]? = some o → o.isCells = true → ¬ Wr T b j W k → W'.heap[k]? = some o
  own : ∀ k, k < W.heap.size → Wr T b j W' k → Wr T b j W k
namespace RW
variable {T : Nat → Prop} {b j : Nat} {A B C W W' : World}
theorem refl (W : World) : RW T b j W W := ⟨Nat.le_refl _, fun _ _ h _ _ => h, fun _ _ h => h⟩
theorem trans (h : RW T b j A B) (k : RW T b j B C) : RW T b j A C :=
  ⟨Nat.le_trans h.size k.size, fun i o hi ho hn => k.block i o (h.block i o hi ho hn) ho (fun hw => hn (h.own i (Array.getElem?_eq_some_iff.1 hi).1 hw)),
    fun i hi hw => h.own i hi (k.own i (Nat.lt_of_lt_of_le hi h.size) hw)⟩
theorem of_keep (k : Keep (Wr T b j W) W W') (ho : ∀ i, i < W.heap.size → Wr T b j W' i → Wr T b j W i) : RW T b j W W' :=
  ⟨k.size, fun i _ hi _ hn => (k.block i (Array.getElem?_eq_some_iff.1 hi).1 hn).trans hi, ho⟩
theorem of_kept (k : Keep (fun _ => False) W W') (hb : b < W.heap.size) : RW T b j W W' :=
  of_keep (k.mono (fun _ _ h => h.elim)) (fun _ _ hw => hw.elim .inl (fun ⟨A, n, c, h1, h2⟩ => .inr ⟨A, n, c, (World.cell?_of_block (w := W) (a := ⟨b, j, none⟩) (k.block b hb (fun h => h))).symm.trans h1, h2⟩))
theorem putObj {B : Nat} (hb : b < B) (W : World) (l : Nat) (o o' : Obj) (hl : B ≤ l) (h : W.heap[l]? = some o) (hc : o.isCells = false) (_ : o.isWalk = false) : RW T b j W (W.putObj l o') := by
  have hlt := (Array.getElem?_eq_some_iff.1 h).1
  have hg := grownBy_putObj' W l o'
  refine ⟨hg.size, fun k o2 hk ho _ => ?_, fun k _ hw => ?_⟩
  · refine (hg.block k (Array.getElem?_eq_some_iff.1 hk).1 (fun e => ?_)).trans hk
    obtain rfl := Option.some.inj e
    rw [h] at hk
    obtain rfl := Option.some.inj hk
    rw [hc] at ho
    cases ho
  · rcases hw with hw | ⟨A, n, c, h1, h2⟩
    · exact .inl hw
    · refine .inr ⟨A, n, c, ?_, h2⟩
      rw [← h1]
      exact (World.cell?_of_block (w := W) (a := ⟨b, j, none⟩) (hg.block b (by omega) (fun e => by have := Option.some.inj e; omega))).symm
theorem sl {α : Type} {E : El α} {a : Option Addr} {c : Nat} {xs : List α} (h : RW T b j W W') (s : Sl E W a c xs) (hn : xs ≠ [] → ∀ p, a = some p → ¬ Wr T b j W p.block) : Sl E W' a c xs := by
  refine ⟨s.le, s.cap, fun hx => ?_⟩
  obtain ⟨b', o, rfl, hr⟩ := s.at_ hx
  refine ⟨b', o, rfl, fun i v hv => ?_⟩
  have hc := hr i v hv
  obtain ⟨ob, h1, h2⟩ := cells_of_cell hc
  exact (World.cell?_of_block (w := W) (a := ⟨b', o + i, none⟩) ((h.block b' ob h1 h2 (hn hx _ rfl)).trans h1.symm)).trans hc
theorem far {α : Type} {E : El α} {a : Option Addr} {c : Nat} {xs : List α} (h : RW T b j W W') (s : Sl E W a c xs) (hn : xs ≠ [] → ∀ p, a = some p → ¬ Wr T b j W p.block) : xs ≠ [] → ∀ p, a = some p → ¬ Wr T b j W' p.block := fun hx p hp hw =>
  hn hx p hp (h.own _ (s.lt hx p hp) hw)
end RW
theorem Keep.grownBy {w w' : World} (k : Keep (fun _ => False) w w') : w.grownBy w' none := ⟨k.os, k.tape, k.output, k.size, fun i hi _ => k.block i hi (fun h => h)⟩
theorem AbidesFrom.kept {β : Type} {B : Nat} {J : β → World → Prop} (h : AbidesFrom B J) {s : β} {w w' : World} (hs : J s w) (k : Keep (fun _ => False) w w') : J s w' :=
  h s w w' none hs k.grownBy (fun r e => by cases e)

set_option maxRecDepth 100000 in
set_option maxHeartbeats 8000000 in
theorem all_in {o : Int} {bb m bx : Nat} {A : Option Addr} {cs : List (Held Item)} {W : World} (n l : Nat) (J Jx : List Item → World → Prop) (zl : List Item) (T : Nat → Prop) (b j : Nat)
   (h : BL o bb A m cs W) (hm : m ≤ 1000000000) (hlen : cs.length ≤ 1000000000) (hbx : W.cell? ⟨bx, 0, none⟩ = some (.pointer (some ⟨bb, 0, none⟩))) (hz : Sorts (kap o) (cs.map (·.1)) zl)
   (hold : ∀ k, Wr T b j W k → k < W.heap.size) (hb : b < W.heap.size) (hJ : AbidesFrom W.heap.size J)
   (hY : ∀ pre x W1, J pre W1 → pre.length < zl.length → YieldAt Fence.wide (n - 1) Try.prog l #[EI.val x] W1 fun e W' => (e = .returned (.bool true) ∧ J (pre ++ [x]) W' ∧ RW T b j W1 W') ∨ (e = .returned (.bool false) ∧ Jx (pre ++ [x]) W'))
   (h0 : J [] W) : CallsIn Fence.wide n Try.prog 71 #[.func (.yield l) #[] #[], .pointer (some ⟨bx, 0, none⟩)] W fun e W' => (∃ v, e = .returned v) ∧ ((∃ ys, ys = zl ∧ J ys W') ∨ (∃ pre, pre <+: zl ∧ Jx pre W')) := by
  have hfew := h.few hm
  obtain ⟨ca, hs, h1, h2, h3, h4, h5⟩ := h
  have hn := h3.length_eq
  obtain ⟨L, HL⟩ : ∃ L, Hid (cs.length = L) := ⟨_, Lib.hid rfl⟩
  have HLL : Hid (L ≤ 1000000000) := by unfold Hid; rw [← HL.out]; exact hlen
  have hLb : (L : Int) ≤ 1000000000 := by have := HLL.out; omega
  have hc1 := h1.cmp
  have hc2 := h1.heap
  have hbw : bb < W.heap.size := World.block_lt_of_cell? W _ h1.cmp
  have hxw : bx < W.heap.size := World.block_lt_of_cell? W _ hbx
  rw [hn, HL.out] at hc2
  have HT := Lib.hid (there_ok (byF o) #[] #[] bb W hc1)
  have HS1 : Hid (Calls Try.prog 72 #[.slice A L ca, .func (.func 73) #[] #[]] W fun e w' => ∃ A' c', e = .returned (.slice A' L c') ∧ Sl EHI w' A' c' cs ∧ Keep nob W w') := by
    have := sort_H no_cmp A ca 0 hs W (Nat.zero_le _) h1.ow.sl (by omega) trivial
    rw [hn, HL.out] at this
    refine this.mono ?_
    rintro e w' ⟨A', c', p, he, ho, hp, -, -, hk, -⟩
    rw [hn, HL.out] at he
    rw [came_is h3 h4 hfew hp] at ho
    exact ⟨A', c', he, ho.sl, hk⟩
  have HS2 : Hid (∀ w' A' c', Keep nob W w' → Sl EHI w' A' c' cs → Calls Try.prog 72 #[.slice A' L c', .func (.func 74) #[] #[.pointer (some ⟨bx, 0, none⟩)]] w' fun e w'' => ∃ A2 c2 zs, e = .returned (.slice A2 L c2) ∧ zs.length = L ∧ zs.map (·.1) = zl ∧ Sl EHI w'' A2 c2 zs ∧ (∀ a, A2 = some a → W.heap.size ≤ a.block) ∧ Keep nob W w'') := fun w' A' c' hk hs' => by
    have := sort_H (key_cmp (byOk o) bx bb W.heap.size hxw hbw) A' c' 0 cs w' hk.size hs' hlen ⟨hk.cell hbx (fun h => h), hk.cell hc1 (fun h => h)⟩
    rw [HL.out] at this
    refine this.mono ?_
    rintro e w'' ⟨A2, c2, p, he, ho, hp, -, hf, hk', -⟩
    rw [HL.out] at he
    exact ⟨A2, c2, _, he, by rw [stepsL_len, HL.out], (told_is (byC_keyed o) cs hp).unique hz, ho.sl, fun a ha => Nat.le_trans hk.size (hf a ha), hk.then_ hk'⟩
  have HZL : Hid (zl.length = L) := by unfold Hid; rw [hz.perm.length_eq, List.length_map, HL.out]
  have HJ := Lib.hid hJ
  have HY := Lib.hid hY
  have H0 := Lib.hid h0
  have HO := Lib.hid hold
  have HBW := Lib.hid hb
  clear h1 h2 h3 h4 h5 hn hlen hz hold hb hJ hY h0 hfew hm hbw hxw
  refine callsIn_of_wp Try.func71 rfl trivial ?_ rfl
  simp only [Try.ntmps71, List.size_toArray, List.length_cons, List.length_nil, Nat.reduceAdd, Nat.reduceSub, Array.replicate_succ, Array.replicate_zero, List.push_toArray, List.append_toArray, List.nil_append, List.cons_append]
  have tok := Lib.hid True.intro
  gi_wp2_with (first
    | (refine ⟨trivial, fun h => absurd h (by simp [Fence.wide]), ?_⟩; gi_at_call 69; refine callsIn_wide.2 (HT.out.mono ?_); rintro e w2 ⟨rfl, hw⟩; replace hw := hw.symm; subst hw; dsimp only)
    | (refine ⟨trivial, fun h => absurd h (by simp [Fence.wide]), ?_⟩; gi_at_call 72; have _t := tok; refine callsIn_wide.2 (HS1.out.mono ?_); rintro e w2 ⟨A1, c1, rfl, hs, hk⟩; dsimp only; have HA1 := Lib.hid hs; have HK1 := Lib.hid hk; clear hs hk _t tok)
    | (refine ⟨trivial, fun h => absurd h (by simp [Fence.wide]), ?_⟩; gi_at_call 72; refine callsIn_wide.2 ((HS2.out w2 A1 c1 HK1.out HA1.out).mono ?_); rintro e w3 ⟨A2, c2, zs, rfl, hzl, hzm, hs, hf, hk⟩; dsimp only; have HZS := Lib.hid hzl; have HZM := Lib.hid hzm; have HA2 := Lib.hid hs; have HF2 := Lib.hid hf; have HK2 := Lib.hid hk; clear hs hk hzl hzm hf))
  have HF3 : Hid (zs ≠ [] → ∀ p, A2 = some p → ¬ Wr T b j w3 p.block) := fun _ p hp hw => by
    have h1 := HF2.out p hp
    have h2 := HO.out p.block (hw.elim .inl (fun ⟨A, n, c, g1, g2⟩ => .inr ⟨A, n, c, (World.cell?_of_block (w := W) (a := ⟨b, j, none⟩) (HK2.out.block b HBW.out (fun h => h))).symm.trans g1, g2⟩))
    omega
  have HJ3 : Hid (J [] w3) := AbidesFrom.kept HJ.out H0.out HK2.out
  have HB3 : Hid (b < w3.heap.size) := Nat.lt_of_lt_of_le HBW.out HK2.out.size
  have hcs := HA2.out.le
  have hcc := HA2.out.cap
  rw [HZS.out] at hcs
  clear HS1 HS2 HT HA1 HK1 HF2 HK2 HO H0 hbx hc1 hc2
  gi_loopw [18] (fun i wr => ∃ k : Nat, k ≤ L ∧ i = .int .i64 (k : Int) ∧ Hid (J (zl.take k) wr) ∧ Hid (Sl EHI wr A2 c2 zs) ∧ Hid (zs ≠ [] → ∀ p, A2 = some p → ¬ Wr T b j wr p.block) ∧ Hid (b < wr.heap.size)) (fun i _ => L - (intOf i).toNat)
  case atStart => exact ⟨0, Nat.zero_le _, rfl, HJ3, HA2, HF3, HB3⟩
  case round =>
    obtain ⟨k, hk, rfl, HJr, HSr, HFr, HBr⟩ := hrel
    by_cases hlt : k < L
    · have hk0 : (0 : Int) ≤ (k : Int) := by omega
      have hk1 : (k : Int) < (L : Int) := by omega
      obtain ⟨b2, o2, rfl, hx⟩ := HSr.out.elem (i := k) (by rw [HZS.out]; exact hlt)
      obtain ⟨⟨⟨zk, zn⟩, zo⟩, HZ⟩ : ∃ z, Hid (zs[k]'(by rw [HZS.out]; exact hlt) = z) := ⟨_, Lib.hid rfl⟩
      rw [HZ.out] at hx
      have hx1 := hx 0 _ rfl
      have hx2 := hx 1 _ rfl
      have hx3 := hx 2 _ rfl
      simp only [EHI, Nat.add_zero] at hx1 hx2 hx3
      clear hx
      obtain ⟨w5, HW5⟩ : ∃ w5, Hid (wr.alloc (.cells #[.int .i64 zk, .int .i64 zn, .int .i64 zo] 114) = w5) := ⟨_, Lib.hid rfl⟩
      have HK5 : Hid (Keep (fun _ => False) wr w5) := by rw [← HW5.out]; exact (Keep.refl _ wr).alloc _
      have HZ1 : Hid (zl.take k ++ [(zk, zn)] = zl.take (k + 1)) := by
        have h1 : zl[k]? = some (zk, zn) := by
          rw [← HZM.out, List.getElem?_map, List.getElem?_eq_getElem (by rw [HZS.out]; exact hlt), HZ.out]
          rfl
        unfold Hid
        rw [List.take_add_one, h1]
        rfl
      obtain ⟨fn, tmps, assign, body, hy, hR⟩ := HY.out (zl.take k) (zk, zn) w5 (AbidesFrom.kept HJ.out HJr.out HK5.out) (by rw [List.length_take, HZL.out]; omega)
      have HR := Lib.hid hR
      simp only [EI] at hy
      rw [← HW5.out] at hy
      clear hR
      gi_wp2_with (fail)
      rw [HW5.out]
      refine ⟨fun h => absurd h (by simp [Fence.wide]), HR.out.mono ?_⟩
      have HS5 : Hid (RW T b j wr w5) := .of_kept HK5.out HBr.out
      rintro e W3 (⟨rfl, hJ3, hk3⟩ | ⟨rfl, hJx3⟩)
      · have HRW : Hid (RW T b j wr W3) := HS5.out.trans hk3
        have HN : Hid (J (zl.take (k + 1)) W3) := by rw [← HZ1.out]; exact hJ3
        clear hJ3 hk3 hy
        gi_wp2
        go_roundw
        case rel => exact ⟨k + 1, hlt, by go_num, HN, HRW.out.sl HSr.out HFr.out, HRW.out.far HSr.out HFr.out, Nat.lt_of_lt_of_le HBr.out HRW.out.size⟩
        case measure => simp [intOf]; omega
      · have HN : Hid (Jx (zl.take (k + 1)) W3) := by rw [← HZ1.out]; exact hJx3
        clear hJx3 hy
        gi_wp2
        refine bodyPost_ret (results_none rfl _ _ _) rfl ?_
        exact ⟨⟨_, rfl⟩, .inr ⟨_, List.take_prefix _ _, HN.out⟩⟩
    · have hkL : k = L := by omega
      subst k
      gi_wp2
      go_end0
      exact ⟨⟨_, rfl⟩, .inl ⟨_, List.take_of_length_le (Nat.le_of_eq HZL.out), HJr.out⟩⟩

/-- the iterator of a bag under order o: zl is what is told -/
theorem all_stops {o : Int} {bb m bx : Nat} {A : Option Addr} {cs : List (Held Item)} {w : World} (n : Nat) (zl : List Item) (T : Nat → Prop) (b j : Nat)
   (h : BL o bb A m cs w) (hm : m ≤ 1000000000) (hlen : cs.length ≤ 1000000000) (hbx : w.cell? ⟨bx, 0, none⟩ = some (.pointer (some ⟨bb, 0, none⟩))) (hz : Sorts (kap o) (cs.map (·.1)) zl)
   (hold : ∀ k, Wr T b j w k → k < w.heap.size) (hb : b < w.heap.size) :
    SeqStopsK Fence.wide n Try.prog 71 #[.pointer (some ⟨bx, 0, none⟩)] (fun x : Item => #[EI.val x]) (RW T b j) (fun ys => ys = zl) (fun pre => pre <+: zl) zl.length w := fun l J Jx W hW hJ _ hY h0 => by
  have hk : Keep (fun k => w.heap.size ≤ k) w W := ⟨hW.os, hW.tape, hW.output, hW.size, fun i hi _ => hW.block i hi⟩
  have hlt := h.lt
  refine all_in n l J Jx zl T b j (h.keep hk (by omega) (fun ⟨a, ha, hs⟩ => by have := (h.old a ha).1; omega)) hm hlen (hk.cell hbx (by have := World.block_lt_of_cell? w _ hbx; show ¬ w.heap.size ≤ bx; exact Nat.not_le.2 this)) hz (fun k hw => ?_) (Nat.lt_of_lt_of_le hb hk.size) hJ hY h0
  refine Nat.lt_of_lt_of_le (hold k (hw.elim .inl (fun ⟨A, n, c, g1, g2⟩ => .inr ⟨A, n, c, (World.cell?_of_block (w := w) (a := ⟨b, j, none⟩) (hk.block b hb (by omega))).symm.trans g1, g2⟩))) hk.size

/-- of a bag that isn't there nothing is told -/
theorem none_stops {bx : Nat} {p : Option Addr} {w : World} (n : Nat) (Kp : World → World → Prop) (hbx : w.cell? ⟨bx, 0, none⟩ = some (.pointer p)) (hT : ∀ W, Below w.heap.size w W → Calls Try.prog 69 #[.pointer p] W (fun e w'' => e = .returned (.bool false) ∧ w'' = W)) :
    SeqStopsK Fence.wide n Try.prog 71 #[.pointer (some ⟨bx, 0, none⟩)] (fun x : Item => #[EI.val x]) Kp (fun ys => ys = []) (fun pre => pre <+: []) 0 w := fun l J Jx W hW _ _ _ h0 => by
  have hk : Keep (fun k => w.heap.size ≤ k) w W := ⟨hW.os, hW.tape, hW.output, hW.size, fun i hi _ => hW.block i hi⟩
  have hbx' := hk.cell hbx (by have := World.block_lt_of_cell? w _ hbx; show ¬ w.heap.size ≤ bx; exact Nat.not_le.2 this)
  have HT := Lib.hid (hT W hW)
  have H0 := Lib.hid h0
  clear hT h0 hbx hW hk
  simp only [List.cons_append, List.nil_append, List.append_toArray]
  refine callsIn_of_wp Try.func71 rfl trivial ?_ rfl
  simp only [Try.ntmps71, List.size_toArray, List.length_cons, List.length_nil, Nat.reduceAdd, Nat.reduceSub, Array.replicate_succ, Array.replicate_zero, List.push_toArray, List.append_toArray, List.nil_append, List.cons_append]
  gi_wp2_with (refine ⟨trivial, fun h => absurd h (by simp [Fence.wide]), ?_⟩; gi_at_call 69; refine callsIn_wide.2 (HT.out.mono ?_); rintro e w2 ⟨rfl, hw⟩; replace hw := hw.symm; subst hw; dsimp only)
  refine bodyPost_ret (results_none rfl _ _ _) rfl ?_
  exact ⟨⟨_, rfl⟩, .inl H0.out⟩

theorem all_ok (p : Option Addr) (w : World) : Calls Try.prog 42 #[.pointer p] w fun e w' => e = .returned (.func (.func 71) #[] #[.pointer (some ⟨w.heap.size, 0, none⟩)]) ∧ w' = w.alloc (.cells #[.pointer p] 53) := by
  go_enter Try.func42, Try.ntmps42
  go_wp2
  go_ret
  exact ⟨rfl, rfl⟩
end Go.Proofs.Ytnofckgnnpmiiaa
