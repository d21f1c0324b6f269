/- What a row of this seat asks: what a law that leaves all memory leaves; what an argument's bulk bounds. -/
import Derived.Test.YtiemkfibpfndaaaGreatDoorTie
import Derived.WalkKit
import Derived.ProofKit
import Derived.OpenShut
import Derived.Deep.DeepHandedRow
import Derived.Deep.DeepWitnessRowRef
import Derived.Carry
import Derived.Test.YtiemkfibpfndaaaGreatDoorPa9
namespace Go.Proofs.YtiemkfibpfndaaaGreatDoor
open Go.ChangeShapes Go.WideShapes Go.ChangeAt Go.RowKit

section
variable {H : Type} {enc : TypeId × Value → H}
theorem trodAll_below {P : Program} (hl : laidOutB P = true) {W W' : World} (hb : Below W.heap.size W W') :
    ∀ {ts : List TypeId} {vs : List Value} {ds : List (DataW H)} {ps : List MemPlace}, (∀ t ∈ ts, P.readableRec t = true ∧ t < P.types.size) → (∀ x ∈ ps, x.block < W.heap.size) →
      DataW.TrodAll enc P W 0 (fun _ => true) true ts vs ds ps → DataW.TrodAll enc P W' 0 (fun b => decide (b < W.heap.size)) true ts vs ds ps
  | [], _, _, _, _, _, h => by
    obtain ⟨rfl, rfl, rfl⟩ := trodAll_nil h
    exact trodAll_mk0
  | t :: ts, _, _, _, ht, hlt, h => by
    obtain ⟨v, vs1, d, ds1, a, b, rfl, rfl, rfl, h1, h2⟩ := trodAll_cons h
    obtain ⟨r1, r2⟩ := ht t (List.mem_cons_self)
    exact trodAll_cons_mk (Below.trod hl r1 r2 h1 hb (fun x hx => hlt x (List.mem_append_left _ hx))) (trodAll_below hl hb (fun t h => ht t (List.mem_cons_of_mem _ h)) (fun x hx => hlt x (List.mem_append_right _ hx)) h2)

/-- A law that answers true and leaves all memory that there was. -/
theorem law_post {f : Func} {s : ChangeSpec} {W W' : World} {args : Array Value} {ds gs : List (DataW H)} {before : List MemPlace}
    (hW : DataW.Whole enc Tryz.prog f.params.toList s.vars false W args.toList ds gs before) (hvars : s.vars = [])
    (hres : (s.fn H ds).results = [.lit (.bool true)]) (hargs : (s.fn H ds).args = ds) (hv : (s.fn H ds).vars = []) (hr : f.resultTypes = #[4])
    (hts : ∀ t ∈ f.params.toList, Tryz.prog.readableRec t = true ∧ t < Tryz.prog.types.size) (hb : Below W.heap.size W W') : s.post enc Tryz.prog f false true false false W args (.bool true) W' := by
  have hW0 := hW
  obtain ⟨p, q, hA, hV, e, hfz, hnd⟩ := hW
  rw [hvars] at hV
  obtain ⟨rfl, rfl⟩ := trodVars_none hV
  rw [List.append_nil] at e
  subst e
  refine ⟨ds, [], before, [], before, [], hW0, ?_, ?_, ?_, hb.frame _, fun h => by cases h⟩
  · rw [List.append_nil, hres, hr]
    exact trodAll_cons_mk (shut_bool Tryz.underlying4 _) trodAll_mk0
  · rw [List.append_nil, hargs]
    exact trodAll_below (by kernel_rfl) hb hts (fun x hx => by simpa using hW0.lt x hx) hA
  · rw [List.append_nil, hv, hvars]
    exact rfl
end
theorem own : ownKnob Tryz.prog.godebug = none := by kernel_rfl
end Go.Proofs.YtiemkfibpfndaaaGreatDoor

/- The reference's reader of MessagePack: its state. -/
namespace Go.Proofs.YtiemkfibpfndaaaGreatDoor
open Go.RowKit

/-- a reference's reader in block b: the bytes, the place, how many containers are open, the fault's number and place -/
structure RR (W : World) (b : Nat) (s : ByteArray) (p op c q : Nat) : Prop where
  c0 : W.cell? ⟨b, 0, none⟩ = some (.string s)
  c1 : W.cell? ⟨b, 1, none⟩ = some (.int .i64 (p : Int))
  c2 : W.cell? ⟨b, 2, none⟩ = some (.int .i64 (op : Int))
  c3 : W.cell? ⟨b, 3, none⟩ = some (.int .i64 (c : Int))
  c4 : W.cell? ⟨b, 4, none⟩ = some (.int .i64 (q : Int))
  c5 : W.cell? ⟨b, 5, none⟩ = some (.string ⟨#[]⟩)
  fz : ∀ i, i < 6 → W.frozen? ⟨b, i, none⟩ = false
theorem RR.keep {W W' : World} {S : Nat → Prop} {b : Nat} {s : ByteArray} {p op c q : Nat} (h : RR W b s p op c q) (k : Keep S W W') (hs : ¬ S b) : RR W' b s p op c q :=
  ⟨k.cell h.c0 hs, k.cell h.c1 hs, k.cell h.c2 hs, k.cell h.c3 hs, k.cell h.c4 hs, k.cell h.c5 hs, fun i hi => by
    rw [← h.fz i hi]
    exact World.frozen?_of_block (k.block b (World.block_lt_of_cell? W _ h.c0) hs)⟩
theorem RR.set1 {W : World} {b : Nat} {s : ByteArray} {p op c q : Nat} (h : RR W b s p op c q) (x : Nat) : RR (W.setCell ⟨b, 1, none⟩ (.int .i64 (x : Int))) b s x op c q :=
  ⟨by rw [World.cell?_setCell_other _ _ _ _ (by simp)]; exact h.c0, World.cell?_setCell_same _ _ _ h.c1, by rw [World.cell?_setCell_other _ _ _ _ (by simp)]; exact h.c2,
    by rw [World.cell?_setCell_other _ _ _ _ (by simp)]; exact h.c3, by rw [World.cell?_setCell_other _ _ _ _ (by simp)]; exact h.c4, by rw [World.cell?_setCell_other _ _ _ _ (by simp)]; exact h.c5, fun i hi => by rw [World.frozen?_setCell]; exact h.fz i hi⟩
theorem RR.set345 {W : World} {b : Nat} {s : ByteArray} {p op c q : Nat} (h : RR W b s p op c q) (x y : Nat) : RR (((W.setCell ⟨b, 3, none⟩ (.int .i64 (x : Int))).setCell ⟨b, 4, none⟩ (.int .i64 (y : Int))).setCell ⟨b, 5, none⟩ (.string ⟨#[]⟩)) b s p op x y := by
  have t : W.there b 3 3 := fun i hi => by
    rcases (show i = 0 ∨ i = 1 ∨ i = 2 by omega) with rfl | rfl | rfl
    · exact ⟨by rw [show (⟨b, 3 + 0, none⟩ : Addr) = ⟨b, 3, none⟩ from rfl, h.c3]; rfl, h.fz 3 (by decide)⟩
    · exact ⟨by rw [show (⟨b, 3 + 1, none⟩ : Addr) = ⟨b, 4, none⟩ from rfl, h.c4]; rfl, h.fz 4 (by decide)⟩
    · exact ⟨by rw [show (⟨b, 3 + 2, none⟩ : Addr) = ⟨b, 5, none⟩ from rfl, h.c5]; rfl, h.fz 5 (by decide)⟩
  have hr := World.rangeAt_setCells_same W b 3 [.int .i64 (x : Int), .int .i64 (y : Int), .string ⟨#[]⟩] t
  have ho : ∀ i v, i < 3 → W.cell? ⟨b, i, none⟩ = some v → (((W.setCell ⟨b, 3, none⟩ (.int .i64 (x : Int))).setCell ⟨b, 4, none⟩ (.int .i64 (y : Int))).setCell ⟨b, 5, none⟩ (.string ⟨#[]⟩)).cell? ⟨b, i, none⟩ = some v := fun i v hi hv => by
    rw [World.cell?_setCell_other _ _ _ _ (by simp <;> omega), World.cell?_setCell_other _ _ _ _ (by simp <;> omega), World.cell?_setCell_other _ _ _ _ (by simp <;> omega)]
    exact hv
  exact ⟨ho 0 _ (by decide) h.c0, ho 1 _ (by decide) h.c1, ho 2 _ (by decide) h.c2, hr 0 _ rfl, hr 1 _ rfl, hr 2 _ rfl, fun i hi => by
    rw [World.frozen?_setCell, World.frozen?_setCell, World.frozen?_setCell]; exact h.fz i hi⟩
end Go.Proofs.YtiemkfibpfndaaaGreatDoor

/- The reference's reader: what it pulls. -/
namespace Go.Proofs.YtiemkfibpfndaaaGreatDoor
open Go.RowKit

theorem rbad0_ok (b : Nat) (s : ByteArray) (p op q : Nat) (w : World) (h : RR w b s p op 0 q) : Calls Tryz.prog 25 #[.pointer (some ⟨b, 0, none⟩)] w fun e w' => e = .returned (.bool false) ∧ w' = w := by
  have c3 := h.c3
  simp only [Int.natCast_zero] at c3
  clear h
  go_enter Tryz.func25, Tryz.ntmps25
  go_wp2
  go_ret
  exact ⟨rfl, rfl⟩
theorem rbad1_ok (b : Nat) (s : ByteArray) (p op c q : Nat) (hc : 0 < c) (w : World) (h : RR w b s p op c q) : Calls Tryz.prog 25 #[.pointer (some ⟨b, 0, none⟩)] w fun e w' => e = .returned (.bool true) ∧ w' = w := by
  have c3 := h.c3
  have hne : ((c : Int) == 0) = false := by rw [beq_eq_false_iff_ne]; omega
  have hne' : ((c : Int) != 0) = true := by rw [bne_iff_ne]; omega
  clear h
  go_enter Tryz.func25, Tryz.ntmps25
  go_wp2
  go_ret
  exact ⟨rfl, rfl⟩
theorem rblame_ok (b : Nat) (s : ByteArray) (p op q : Nat) (c x : Nat) (w : World) (h : RR w b s p op 0 q) : Calls Tryz.prog 53 #[.pointer (some ⟨b, 0, none⟩), .int .i64 (c : Int), .int .i64 (x : Int)] w fun e w' => e = .returned (.tuple #[]) ∧ RR w' b s p op c x ∧ Keep (· = b) w w' := by
  have HB := Lib.hid (rbad0_ok b s p op q w h)
  have c3 := h.c3
  have c4 := h.c4
  have c5 := h.c5
  have f3 := h.fz 3 (by decide)
  have f4 := h.fz 4 (by decide)
  have f5 := h.fz 5 (by decide)
  have HR := Lib.hid (h.set345 c x)
  clear h
  go_enter Tryz.func53, Tryz.ntmps53
  go_wp2_with (go_at_call 25; go_must (refine HB.out.mono ?_); rintro e w1 ⟨rfl, rfl⟩)
  go_end0
  exact ⟨rfl, HR.out, (((Keep.refl (· = b) w1).setCell (fun _ => rfl) _).setCell (fun _ => rfl) _).setCell (fun _ => rfl) _⟩
theorem rest_take (s : ByteArray) (p n : Nat) (h : n ≤ s.size - p) (hp : p ≤ s.size) : (s.extract p s.size).extract 0 n = s.extract p (p + n) := by
  rw [ByteArray.extract_extract, Nat.add_zero, Nat.min_eq_left (by omega)]
theorem rpull_ok (b : Nat) (s : ByteArray) (p op q0 n : Nat) (w : World) (h : RR w b s p op 0 q0) (hp : p ≤ s.size) (hs : s.size ≤ 1152921504606846976) (hn : n < 18446744073709551616) : Calls Tryz.prog 37 #[.pointer (some ⟨b, 0, none⟩), .int .u64 (n : Int), .bool false] w fun e w' => Keep (· = b) w w' ∧ match takeR s p n with
    | .ok t q => e = .returned (.string t) ∧ RR w' b s q op 0 q0
    | .bad c q => e = .returned (.string ⟨#[]⟩) ∧ RR w' b s p op c q := by
  have HB := Lib.hid (rbad0_ok b s p op q0 w h)
  have HBL := Lib.hid (fun (W : World) (hk : Keep nob w W) => rblame_ok b s p op q0 3 s.size W (h.keep hk (fun h => h)))
  have HH := Lib.hid h
  have c0 := h.c0
  have c1 := h.c1
  have f1 := h.fz 1 (by decide)
  have e1 : (s.extract p s.size).size = s.size - p := by rw [ByteArray.size_extract]; omega
  have i2 : IntKind.u64.wrap ((s.size - p : Nat) : Int) = ((s.size - p : Nat) : Int) := by rw [IntKind.wrap_u64]; omega
  clear h
  unfold takeR
  by_cases h1 : s.size - p < n
  · rw [if_pos h1]
    have d1 : decide ((n : Int) < ((s.size - p : Nat) : Int)) = false := by rw [decide_eq_false_iff_not]; omega
    have d2 : decide (((s.size - p : Nat) : Int) < (n : Int)) = true := by rw [decide_eq_true_iff]; omega
    go_enter Tryz.func37, Tryz.ntmps37
    go_wp2_with (first | (go_at_call 25; go_must (refine HB.out.mono ?_); rintro e w1 ⟨rfl, rfl⟩) | (go_at_call 53; go_must (refine (HBL.out _ (Keep.refl _ _)).mono ?_); rintro e w2 ⟨rfl, hr2, hk2⟩))
    go_ret
    exact ⟨hk2, rfl, hr2⟩
  · rw [if_neg h1]
    have d2 : decide ((n : Int) < (n : Int)) = false := by rw [decide_eq_false_iff_not]; omega
    have i3 : IntKind.i64.wrap ((p : Int) + (n : Int)) = ((p + n : Nat) : Int) := by rw [IntWalk.i64_left, IntWalk.wrap64_in _ ⟨by omega, by omega⟩]; omega
    have i4 : IntKind.u64.wrap (n : Int) = (n : Int) := by rw [IntKind.wrap_u64]; omega
    have e2 : (s.extract p (p + n)).size = n := by rw [ByteArray.size_extract]; omega
    have e3 := rest_take s p n (by omega) hp
    have HS1 := Lib.hid (HH.out.set1 (p + n))
    rcases Nat.lt_or_ge n (s.size - p) with h2 | h2
    · have d1 : decide ((n : Int) < ((s.size - p : Nat) : Int)) = true := by rw [decide_eq_true_iff]; omega
      have hle : n ≤ s.size - p := by omega
      go_enter Tryz.func37, Tryz.ntmps37
      go_wp2_with (go_at_call 25; go_must (refine HB.out.mono ?_); rintro e w1 ⟨rfl, rfl⟩)
      go_ret
      exact ⟨(Keep.refl (· = b) w1).setCell (fun _ => rfl) _, rfl, HS1.out⟩
    · have d1 : decide ((n : Int) < ((s.size - p : Nat) : Int)) = false := by rw [decide_eq_false_iff_not]; omega
      have hnp : s.size - p = n := by omega
      have hps : s.size = p + n := by omega
      have e4 : s.extract p s.size = s.extract p (p + n) := by rw [hps]
      clear hps
      go_enter Tryz.func37, Tryz.ntmps37
      go_wp2_with (go_at_call 25; go_must (refine HB.out.mono ?_); rintro e w1 ⟨rfl, rfl⟩)
      go_ret
      exact ⟨(Keep.refl (· = b) w1).setCell (fun _ => rfl) _, rfl, HS1.out⟩
theorem bl_at (t : ByteArray) (i : Nat) (h : i < t.size) : (bl t)[i]? = some (t[i]'h).toNat := by
  unfold bl
  rw [List.getElem?_map]
  have : t.data.toList[i]? = some (t[i]'h) := by
    rw [Array.getElem?_toList]
    exact Array.getElem?_eq_getElem h
  rw [this]
  rfl
theorem beN_step (t : ByteArray) (i : Nat) (h : i < t.size) : beN ((bl t).take (i + 1)) = beN ((bl t).take i) * 256 + (t[i]'h).toNat := by
  have h1 := bl_at t i h
  rw [List.take_add_one, h1]
  unfold beN
  rw [List.foldl_append]
  rfl
theorem beN_cap (t : ByteArray) : ∀ i, i ≤ t.size → beN ((bl t).take i) < 256 ^ i
  | 0, _ => by rw [List.take_zero]; decide
  | i + 1, h => by
    have ih := beN_cap t i (by omega)
    have hy := UInt8.toNat_lt (t[i]'(by omega))
    rw [beN_step t i (by omega), Nat.pow_succ]
    omega
theorem bl_lenZ (t : ByteArray) : (bl t).length = t.size := by
  unfold bl
  rw [List.length_map]
  rfl
theorem rnumber_ok (b : Nat) (s : ByteArray) (p op q0 n : Nat) (w : World) (h : RR w b s p op 0 q0) (hp : p ≤ s.size) (hs : s.size ≤ 1152921504606846976) (hn : n ≤ 4) : Calls Tryz.prog 31 #[.pointer (some ⟨b, 0, none⟩), .int .i64 (n : Int)] w fun e w' => Keep (· = b) w w' ∧ match takeR s p n with
    | .ok t q => e = .returned (.int .u64 ((beN (bl t) : Nat) : Int)) ∧ RR w' b s q op 0 q0
    | .bad c q => e = .returned (.int .u64 0) ∧ RR w' b s p op c q := by
  have HP := rpull_ok b s p op q0 n w h hp hs (by omega)
  have i1 : IntKind.u64.wrap (n : Int) = (n : Int) := by rw [IntKind.wrap_u64]; omega
  cases hT : takeR s p n with
  | bad c q =>
    rw [hT] at HP
    dsimp only at HP ⊢
    have HP := Lib.hid HP
    clear h hp hs hn hT
    go_enter Tryz.func31, Tryz.ntmps31
    go_upto_region 2 with (go_at_call 37; go_must (refine HP.out.mono ?_); rintro e w1 ⟨hk1, rfl, hr1⟩; have HK1 := Lib.hid hk1; have HR1 := Lib.hid hr1; clear hk1 hr1)
    go_wp2_with (fail)
    refine wp_loop_rounds 1 ?_
    rw [rounds_succ]
    go_wp2
    go_ret
    exact ⟨HK1.out, rfl, HR1.out⟩
  | ok t q =>
    rw [hT] at HP
    dsimp only at HP ⊢
    have HP := Lib.hid HP
    have ht : t.size = n := by
      unfold takeR at hT
      split at hT
      · cases hT
      · simp only [R.ok.injEq] at hT
        rw [← hT.1, ByteArray.size_extract]
        omega
    clear h hp hs hT
    go_enter Tryz.func31, Tryz.ntmps31
    go_upto_region 2 with (go_at_call 37; go_must (refine HP.out.mono ?_); rintro e w1 ⟨hk1, rfl, hr1⟩; have HK1 := Lib.hid hk1; have HR1 := Lib.hid hr1; clear hk1 hr1)
    go_wp2_with (fail)
    go_loopw [6, 7] (fun u6 u7 wr => ∃ i : Nat, i ≤ n ∧ u6 = .int .u64 ((beN ((bl t).take i) : Nat) : Int) ∧ u7 = .int .i64 (i : Int) ∧ wr = w1) (fun _ u7 _ => n - (intOf u7).toNat)
    case atStart => exact ⟨0, Nat.zero_le _, by rw [List.take_zero]; rfl, rfl, rfl⟩
    case round =>
      obtain ⟨i, hi, rfl, rfl, rfl⟩ := hrel
      rcases Nat.lt_or_ge i n with hlt | hge
      · have hlt2 : decide ((i : Int) < (n : Int)) = true := by rw [decide_eq_true_iff]; omega
        have hlt3 : i < t.size := by omega
        have hst := beN_step t i hlt3
        have hcp := beN_cap t i (by omega)
        have hpw : 256 ^ i ≤ 256 ^ 4 := Nat.pow_le_pow_right (by decide) (by omega)
        obtain ⟨y, HY⟩ : ∃ y, Hid ((t[i]'hlt3).toNat = y) := ⟨_, Lib.hid rfl⟩
        have hy := HY.out
        have hy8 : y < 256 := by rw [← hy]; exact UInt8.toNat_lt _
        rw [hy] at hst
        obtain ⟨x, HX⟩ : ∃ x, Hid (beN ((bl t).take i) = x) := ⟨_, Lib.hid rfl⟩
        rw [HX.out] at hst hcp ⊢
        have HST := Lib.hid hst
        have i2 : IntKind.u64.wrap ((x : Int) * 256) = (x : Int) * 256 := by rw [IntKind.wrap_u64]; omega
        have i3 : IntKind.u64.wrap (y : Int) = (y : Int) := by rw [IntKind.wrap_u64]; omega
        have i4 : IntKind.u64.wrap ((x : Int) * 256 + (y : Int)) = (x : Int) * 256 + (y : Int) := by rw [IntKind.wrap_u64]; omega
        clear hst hcp hpw
        go_wp2
        exact ⟨⟨i + 1, by omega, by rw [HST.out, Int.natCast_add, Int.natCast_mul]; rfl, rfl, trivial⟩, by simp [intOf]; omega⟩
      · obtain rfl : i = n := by omega
        have hlt2 : decide ((i : Int) < (i : Int)) = false := by rw [decide_eq_false_iff_not]; omega
        have hall : (bl t).take i = bl t := List.take_of_length_le (by rw [bl_lenZ]; omega)
        rw [hall]
        go_wp2
        go_ret
        exact ⟨HK1.out, rfl, HR1.out⟩
end Go.Proofs.YtiemkfibpfndaaaGreatDoor

/- A pattern's parts put together again: exact64, partsN. Plain Lean. -/
namespace Go.Proofs.YtiemkfibpfndaaaGreatDoor

theorem bitLen_two (x : Nat) (h : x < 2 ^ 64) : Lib.bitLen x = bitsN x := bitLen_bits 64 x h h
/-- a number below 2^64, nought aside, is 2^ctz times an odd one -/
theorem ctz_spec {x : Nat} (h0 : 0 < x) (h : x < 2 ^ 64) : ∃ m, x = 2 ^ Lib.ctz 64 x * (2 * m + 1) ∧ Lib.ctz 64 x < 64 := by
  have e : Lib.ctz 64 x = Lib.ctzFrom 64 x := by unfold Lib.ctz; rw [if_neg (by omega)]
  rw [e]
  exact Lib.ctzFrom_spec 64 x h0 h
theorem odd_pow {a b m n : Nat} (h : 2 ^ a * (2 * m + 1) = 2 ^ b * (2 * n + 1)) : a = b ∧ m = n := by
  rcases Nat.lt_trichotomy a b with hl | rfl | hl
  · exfalso
    obtain ⟨d, rfl⟩ : ∃ d, b = a + (d + 1) := ⟨b - a - 1, by omega⟩
    rw [Nat.pow_add, Nat.mul_assoc] at h
    have h1 := Nat.eq_of_mul_eq_mul_left (Nat.pow_pos (by decide)) h
    rw [Nat.pow_succ, Nat.mul_assoc, Nat.mul_left_comm] at h1
    omega
  · have h1 := Nat.eq_of_mul_eq_mul_left (Nat.pow_pos (by decide)) h
    exact ⟨rfl, by omega⟩
  · exfalso
    obtain ⟨d, rfl⟩ : ∃ d, a = b + (d + 1) := ⟨a - b - 1, by omega⟩
    rw [Nat.pow_add, Nat.mul_assoc] at h
    have h1 := Nat.eq_of_mul_eq_mul_left (Nat.pow_pos (by decide)) h
    rw [Nat.pow_succ, Nat.mul_assoc, Nat.mul_left_comm] at h1
    omega
theorem ctz_mul {m k : Nat} (h : (2 * m + 1) * 2 ^ k < 2 ^ 64) : Lib.ctz 64 ((2 * m + 1) * 2 ^ k) = k := by
  have hp : 0 < 2 ^ k := Nat.pow_pos (by decide)
  obtain ⟨n, h1, _⟩ := ctz_spec (x := (2 * m + 1) * 2 ^ k) (Nat.mul_pos (by omega) hp) h
  have h2 : 2 ^ Lib.ctz 64 ((2 * m + 1) * 2 ^ k) * (2 * n + 1) = 2 ^ k * (2 * m + 1) := by rw [← h1, Nat.mul_comm]
  exact (odd_pow h2).1
theorem pow_bits {m : Nat} (hm : 0 < m) : 2 ^ (bitsN m - 1) ≤ m ∧ m < 2 ^ bitsN m := ⟨bitsN_ge (by omega), bitsN_lt m⟩
set_option maxRecDepth 100000 in
/-- what exact64 makes of an odd m and an e in range: the pattern whose parts they are -/
theorem parts_exact (neg : Bool) (j : Nat) (e : Int) (hm : 2 * j + 1 < 9007199254740992) (he1 : -1074 ≤ e) (he2 : (bitsN (2 * j + 1) : Int) + e ≤ 1024) :
    partsN 52 (-1074) 11 (exact64 neg (2 * j + 1) e) = some (neg, 2 * j + 1, e) ∧ exact64 neg (2 * j + 1) e < 18446744073709551616 := by
  obtain ⟨m, hmj⟩ : ∃ m, m = 2 * j + 1 := ⟨_, rfl⟩
  have hm0 : 0 < m := by omega
  obtain ⟨hb1, hb2⟩ := pow_bits hm0
  have hbn : bitsN m ≤ 53 := bitsN_le (by rw [hmj]; exact hm)
  have hb0 : 1 ≤ bitsN m := by
    rcases Nat.eq_zero_or_pos (bitsN m) with h | h
    · rw [h] at hb2; omega
    · exact h
  rw [← hmj] at he2 ⊢
  obtain ⟨last, hlast⟩ : ∃ last : Int, last = max ((bitsN m : Int) - 53 + e) (-1074) := ⟨_, rfl⟩
  obtain ⟨k, hk⟩ : ∃ k : Nat, (k : Int) = e - last := ⟨(e - last).toNat, by omega⟩
  obtain ⟨kept, hkept⟩ : ∃ kept, kept = m * 2 ^ k := ⟨_, rfl⟩
  have hkb : bitsN m + k ≤ 53 := by omega
  have hk53 : kept < 9007199254740992 := by
    have h1 : kept < 2 ^ bitsN m * 2 ^ k := by rw [hkept]; exact Nat.mul_lt_mul_of_pos_right hb2 (Nat.pow_pos (by decide))
    rw [← Nat.pow_add] at h1
    exact Nat.lt_of_lt_of_le h1 (Nat.pow_le_pow_right (n := 2) (by decide) hkb)
  have hkp : 0 < kept := by rw [hkept]; exact Nat.mul_pos hm0 (Nat.pow_pos (by decide))
  have hctz : Lib.ctz 64 kept = k := by
    rw [hkept, hmj]
    refine ctz_mul ?_
    rw [← hmj, ← hkept]
    omega
  have hdiv : kept / 2 ^ k = m := by rw [hkept]; exact Nat.mul_div_cancel _ (Nat.pow_pos (by decide))
  have hlt : ¬ 2046 ≤ last + 1074 := by omega
  have hex : exact64 neg m e = if kept / 4503599627370496 = 0 then signed64N neg kept else signed64N neg ((last + 1074).toNat * 4503599627370496 + kept) := by
    unfold exact64
    rw [if_neg (by omega), bitLen_two m (by rw [hmj]; omega)]
    simp only
    rw [← hlast, if_neg hlt, show (e - last).toNat = k by omega, ← hkept]
  by_cases hsub : kept / 4503599627370496 = 0
  · -- below the least normal one
    rw [if_pos hsub] at hex
    have hk52 : kept < 4503599627370496 := by omega
    have hl : last = -1074 := by
      rcases Int.lt_or_le (-1074) ((bitsN m : Int) - 53 + e) with h | h
      · exfalso
        have h1 : (bitsN m : Int) + (k : Int) = 53 := by omega
        have h2 : bitsN m + k = 53 := by omega
        have h3 : 2 ^ (bitsN m - 1) * 2 ^ k ≤ kept := by rw [hkept]; exact Nat.mul_le_mul_right _ hb1
        rw [← Nat.pow_add, show bitsN m - 1 + k = 52 by omega] at h3
        omega
      · omega
    rw [hex]
    unfold signed64N partsN
    cases neg with
    | false =>
      simp only [Bool.false_eq_true, if_false]
      rw [show kept % 2 ^ (52 + 11) = kept by omega, if_neg (by omega), if_neg (by omega)]
      simp only [show (2 : Nat) ^ 52 = 4503599627370496 from rfl, hsub, Nat.lt_irrefl, if_false]
      rw [hctz, hdiv]
      refine ⟨?_, by omega⟩
      rw [show (-1074 : Int) + (k : Int) = e by omega]
      simp
      omega
    | true =>
      simp only [if_true]
      rw [show (kept + 9223372036854775808) % 2 ^ (52 + 11) = kept by omega, if_neg (by omega), if_neg (by omega)]
      simp only [show (2 : Nat) ^ 52 = 4503599627370496 from rfl, hsub, Nat.lt_irrefl, if_false]
      rw [hctz, hdiv]
      refine ⟨?_, by omega⟩
      rw [show (-1074 : Int) + (k : Int) = e by omega]
      simp
  · rw [if_neg hsub] at hex
    have hk52 : 4503599627370496 ≤ kept := by omega
    obtain ⟨q, hq⟩ : ∃ q : Nat, (q : Int) = last + 1074 := ⟨(last + 1074).toNat, by omega⟩
    rw [show (last + 1074).toNat = q by omega] at hex
    have hq2 : q < 2046 := by omega
    obtain ⟨f, hf⟩ : ∃ f, kept = 4503599627370496 + f := ⟨kept - 4503599627370496, by omega⟩
    have hf2 : f < 4503599627370496 := by omega
    obtain ⟨P, hP⟩ : ∃ P, P = q * 4503599627370496 + kept := ⟨_, rfl⟩
    have hs : P < 9218868437227405312 := by omega
    have hd : P / 4503599627370496 = q + 1 := by omega
    have hmod : P % 4503599627370496 + 4503599627370496 = kept := by omega
    have hP0 : ¬ P = 0 := by omega
    have hm1 : P % 9223372036854775808 = P := by omega
    have hm2 : (P + 9223372036854775808) % 9223372036854775808 = P := by omega
    have hge : ¬ 9223372036854775808 - 4503599627370496 ≤ P := by omega
    have hee : (-1074 : Int) + (((q + 1 : Nat) : Int) - 1) + (k : Int) = e := by omega
    have hdec : decide (9223372036854775808 ≤ P) = false := by rw [decide_eq_false_iff_not]; omega
    have hdec2 : decide (9223372036854775808 ≤ P + 9223372036854775808) = true := by rw [decide_eq_true_iff]; omega
    rw [hex, ← hP]
    unfold signed64N partsN
    simp only [show (2 : Nat) ^ (52 + 11) = 9223372036854775808 from rfl, show (2 : Nat) ^ 52 = 4503599627370496 from rfl]
    cases neg with
    | false =>
      simp only [Bool.false_eq_true, if_false]
      rw [hm1, if_neg hge, if_neg hP0, hd, hmod, if_pos (Nat.succ_pos q), if_pos (Nat.succ_pos q), hctz, hdiv, hee, hdec]
      exact ⟨rfl, by omega⟩
    | true =>
      simp only [if_true]
      rw [hm2, if_neg hge, if_neg hP0, hd, hmod, if_pos (Nat.succ_pos q), if_pos (Nat.succ_pos q), hctz, hdiv, hee, hdec2]
      exact ⟨rfl, by omega⟩
end Go.Proofs.YtiemkfibpfndaaaGreatDoor

/- A document within other bytes: read there as alone, unless it is too deep there. Plain Lean. -/
namespace Go.Proofs.YtiemkfibpfndaaaGreatDoor
variable (D : Words)

mutual
/-- how deep a value is nested -/
def depV : V → Nat
  | .mk k _ _ _ _ _ _ kids => if k = 7 ∨ k = 8 ∨ k = 9 then depL kids + 1 else 0
def depL : List V → Nat
  | [] => 0
  | v :: l => max (depV v) (depL l)
end
theorem depL_nil : depL [] = 0 := by unfold depL; rfl
theorem depL_cons (v : V) (l : List V) : depL (v :: l) = max (depV v) (depL l) := by rw [depL]
theorem depL_app : ∀ (l l' : List V), depL (l ++ l') = max (depL l) (depL l')
  | [], l' => by rw [List.nil_append, depL_nil]; omega
  | v :: l, l' => by rw [List.cons_append, depL_cons, depL_cons, depL_app l l']; omega
theorem depL_ins (acc : List V) (m : Nat) (key x : V) : depL (insN acc m key x) = max (depL acc) (max (depV key) (depV x)) := by
  have h : depL acc = max (depL (acc.take (2 * m))) (depL (acc.drop (2 * m))) := by rw [← depL_app, List.take_append_drop]
  unfold insN
  rw [depL_app, depL_cons, depL_cons, h]
  omega
/-- words for values that hold none -/
structure Flat (D : Words) : Prop where
  whole : ∀ n, depV (D.whole n) = 0
  below : ∀ n, depV (D.below n) = 0
  single : ∀ n, depV (D.single n) = 0
  double : ∀ n, depV (D.double n) = 0
  twos : ∀ t, depV (D.twos t) = 0

/-- the bytes d lie in s', k further on -/
structure Shift (d s : ByteArray) (k : Nat) : Prop where
  sz : k + d.size ≤ s.size
  ex : ∀ p n, p + n ≤ d.size → s.extract (k + p) (k + p + n) = d.extract p (p + n)
theorem Shift.mk' (a d b : ByteArray) : Shift d (a ++ d ++ b) a.size := by
  refine ⟨by rw [ByteArray.size_append, ByteArray.size_append]; omega, fun p n h => ?_⟩
  apply ByteArray.ext
  simp only [ByteArray.data_extract, ByteArray.data_append]
  apply Array.ext'
  simp only [Array.toList_extract, Array.toList_append, List.extract_eq_take_drop]
  have ha : a.size = a.data.toList.length := rfl
  have hd : d.size = d.data.toList.length := rfl
  rw [List.append_assoc, ha, ← List.drop_drop, List.drop_left' rfl, List.drop_append_of_le_length (by omega), List.take_append_of_le_length (by rw [List.length_drop]; omega)]
  congr 1
  omega
theorem Shift.first (d b : ByteArray) : Shift d (d ++ b) 0 := by
  have := Shift.mk' ByteArray.empty d b
  rwa [ByteArray.empty_append] at this
theorem Shift.last (a d : ByteArray) : Shift d (a ++ d) a.size := by
  have := Shift.mk' a d ⟨#[]⟩
  have e : a ++ d ++ ⟨#[]⟩ = a ++ d := ByteArray.append_empty
  rwa [e] at this

section
variable {D} {d s : ByteArray} {k : Nat} (S : Shift d s k)
include S
theorem take_shift {p n q : Nat} {t : ByteArray} (hp : p ≤ d.size) (h : takeR d p n = .ok t q) : takeR s (k + p) n = .ok t (k + q) ∧ q ≤ d.size := by
  have hz := S.sz
  unfold takeR at h ⊢
  split at h
  · cases h
  · rename_i hn
    simp only [R.ok.injEq] at h
    obtain ⟨rfl, rfl⟩ := h
    rw [if_neg (by omega), S.ex p n (by omega), Nat.add_assoc]
    exact ⟨rfl, by omega⟩
theorem text_shift {p n q : Nat} {t : ByteArray} (hp : p ≤ d.size) (h : textR d p n = .ok t q) : textR s (k + p) n = .ok t (k + q) ∧ q ≤ d.size := by
  have hz := S.sz
  unfold textR at h
  split at h
  · cases h
  · rename_i hn
    have h2 := take_shift S hp h
    have hle : n ≤ d.size - p := by
      unfold takeR at h
      split at h
      · cases h
      · omega
    unfold textR
    have e1 : min n (d.size - p) = n := by omega
    have e2 : min n (s.size - (k + p)) = n := by omega
    rw [e1] at hn
    rw [e2, S.ex p n (by omega)]
    have hl : (bl (d.extract p (p + n))).length = n := by rw [bl_len, ByteArray.size_extract]; omega
    have h3 := scan_none (m := d.size - p) (m' := s.size - (k + p)) (l := bl (d.extract p (p + n))) (n := n) n (by omega) (by omega) (by rw [List.length_take]; omega) (fun q hq => by rw [hn] at hq; cases hq)
    rw [List.take_of_length_le (by omega)] at h3
    rw [h3]
    exact h2
end

/-- x is what is read k further on, with room for D' containers, where v ends at q -/
def Sh (k D' : Nat) (v : V) (q : Nat) (x : R V) : Prop := (depV v ≤ D' → x = .ok v (k + q)) ∧ (D' < depV v → ∃ r, x = .bad 5 r)
theorem Sh.flat {k D' q : Nat} {v : V} {x : R V} (h0 : depV v = 0) (h : x = .ok v (k + q)) : Sh k D' v q x := ⟨fun _ => h, fun h' => by omega⟩
section
variable {D} {z k D' : Nat} {it it' : Nat → R V} (hit : ∀ p v q, p ≤ z → it p = .ok v q → q ≤ z ∧ Sh k D' v q (it' (k + p)))
include hit
theorem rounds_shift : ∀ (n p : Nat) (acc l : List V) (q : Nat), p ≤ z → roundsN it n p acc = .ok l q → q ≤ z ∧ ∃ m, l = acc ++ m ∧ m.length = n ∧ (depL m ≤ D' → roundsN it' n (k + p) acc = .ok l (k + q)) ∧ (D' < depL m → ∃ r, roundsN it' n (k + p) acc = .bad 5 r)
  | 0, p, acc, l, q, hp, h => by
    simp only [roundsN, R.ok.injEq] at h
    obtain ⟨rfl, rfl⟩ := h
    exact ⟨hp, [], by simp, rfl, fun _ => rfl, fun h => by rw [depL_nil] at h; omega⟩
  | n + 1, p, acc, l, q, hp, h => by
    simp only [roundsN] at h ⊢
    cases hi : it p with
    | bad c r => rw [hi] at h; cases h
    | ok v p1 =>
      rw [hi] at h
      obtain ⟨hp1, h1, h2⟩ := hit p v p1 hp hi
      obtain ⟨hq, m, rfl, hm, h3, h4⟩ := rounds_shift n p1 (acc ++ [v]) l q hp1 h
      refine ⟨hq, v :: m, by simp, by simp [hm], fun hd => ?_, fun hd => ?_⟩
      · rw [depL_cons] at hd
        rw [h1 (by omega)]
        exact h3 (by omega)
      · rw [depL_cons] at hd
        rcases Nat.lt_or_ge D' (depV v) with hv | hv
        · obtain ⟨r, hr⟩ := h2 hv
          exact ⟨r, by rw [hr]; rfl⟩
        · rw [h1 hv]
          exact h4 (by omega)
theorem pairs_shift : ∀ (n p : Nat) (acc l : List V) (q : Nat), p ≤ z → pairsN D it n p acc = .ok l q → q ≤ z ∧ ∃ m, depL l = max (depL acc) (depL m) ∧ (depL m ≤ D' → pairsN D it' n (k + p) acc = .ok l (k + q)) ∧ (D' < depL m → ∃ r, pairsN D it' n (k + p) acc = .bad 5 r)
  | 0, p, acc, l, q, hp, h => by
    simp only [pairsN, R.ok.injEq] at h
    obtain ⟨rfl, rfl⟩ := h
    exact ⟨hp, [], by rw [depL_nil]; omega, fun _ => rfl, fun h => by rw [depL_nil] at h; omega⟩
  | n + 1, p, acc, l, q, hp, h => by
    simp only [pairsN] at h ⊢
    cases hi : it p with
    | bad c r => rw [hi] at h; cases h
    | ok v p1 =>
      rw [hi] at h
      obtain ⟨hp1, h1, h2⟩ := hit p v p1 hp hi
      simp only [R.bind] at h
      split at h
      · cases h
      rename_i hdup
      cases hj : it p1 with
      | bad c r => rw [hj] at h; cases h
      | ok x p2 =>
        rw [hj] at h
        obtain ⟨hp2, h5, h6⟩ := hit p1 x p2 hp1 hj
        obtain ⟨hq, m, hdl, h3, h4⟩ := pairs_shift n p2 _ l q hp2 h
        refine ⟨hq, v :: x :: m, by rw [hdl, depL_ins, depL_cons, depL_cons]; omega, fun hd => ?_, fun hd => ?_⟩
        · rw [depL_cons, depL_cons] at hd
          rw [h1 (by omega)]
          simp only [R.bind]
          rw [if_neg hdup, h5 (by omega)]
          exact h3 (by omega)
        · rw [depL_cons, depL_cons] at hd
          rcases Nat.lt_or_ge D' (depV v) with hv | hv
          · obtain ⟨r, hr⟩ := h2 hv
            exact ⟨r, by rw [hr]; rfl⟩
          · rw [h1 hv]
            simp only [R.bind]
            rw [if_neg hdup]
            rcases Nat.lt_or_ge D' (depV x) with hx | hx
            · obtain ⟨r, hr⟩ := h6 hx
              exact ⟨r, by rw [hr]⟩
            · rw [h5 hx]
              exact h4 (by omega)
end

/-- what is read within, so many containers more may be open -/
def inD (s : ByteArray) : Nat → Option (Nat → R V)
  | 0 => none
  | n + 1 => some (itemN D s n)
theorem itemN_inD (s : ByteArray) (n p : Nat) : itemN D s n p = itemF D s (inD D s n) p := by cases n <;> rfl
section
variable {D} {d s : ByteArray} {k : Nat} (S : Shift d s k) (F : Flat D)
include S F
theorem fam_shift {n0 D' : Nat} (hin : ∀ m E, n0 = m + 1 → D' = E + 1 → ∀ p v q, p ≤ d.size → itemN D d m p = .ok v q → q ≤ d.size ∧ Sh k E v q (itemN D s E (k + p)))
    (hin0 : ∀ m, n0 = m + 1 → ∀ p v q, p ≤ d.size → itemN D d m p = .ok v q → q ≤ d.size)
    (fr fr' : Nat) (f : Fam) (n p : Nat) (hp : p ≤ d.size) {v : V} {q : Nat} (h : famR D d (inD D d n0) fr f n p = .ok v q) : q ≤ d.size ∧ Sh k D' v q (famR D s (inD D s D') fr' f n (k + p)) := by
  cases f with
  | word => simp only [famR, R.ok.injEq] at h ⊢; obtain ⟨rfl, rfl⟩ := h; exact ⟨hp, Sh.flat (by split <;> simp [V.nul, V.boo, depV]) rfl⟩
  | whole => simp only [famR, R.ok.injEq] at h ⊢; obtain ⟨rfl, rfl⟩ := h; exact ⟨hp, Sh.flat (F.whole _) rfl⟩
  | below => simp only [famR, R.ok.injEq] at h ⊢; obtain ⟨rfl, rfl⟩ := h; exact ⟨hp, Sh.flat (F.below _) rfl⟩
  | single => simp only [famR, R.ok.injEq] at h ⊢; obtain ⟨rfl, rfl⟩ := h; exact ⟨hp, Sh.flat (F.single _) rfl⟩
  | double => simp only [famR, R.ok.injEq] at h ⊢; obtain ⟨rfl, rfl⟩ := h; exact ⟨hp, Sh.flat (F.double _) rfl⟩
  | signed =>
    simp only [famR] at h ⊢
    cases ht : takeR d p n with
    | bad c r => rw [ht] at h; cases h
    | ok t p1 =>
      rw [ht] at h
      simp only [R.bind, R.ok.injEq] at h
      obtain ⟨rfl, rfl⟩ := h
      obtain ⟨e, hq⟩ := take_shift S hp ht
      exact ⟨hq, Sh.flat (F.twos _) (by rw [e]; rfl)⟩
  | bytes =>
    simp only [famR] at h ⊢
    cases ht : takeR d p n with
    | bad c r => rw [ht] at h; cases h
    | ok t p1 =>
      rw [ht] at h
      simp only [R.bind, R.ok.injEq] at h
      obtain ⟨rfl, rfl⟩ := h
      obtain ⟨e, hq⟩ := take_shift S hp ht
      exact ⟨hq, Sh.flat (by simp [V.byt, depV]) (by rw [e]; rfl)⟩
  | text =>
    simp only [famR] at h ⊢
    cases ht : textR d p n with
    | bad c r => rw [ht] at h; cases h
    | ok t p1 =>
      rw [ht] at h
      simp only [R.bind, R.ok.injEq] at h
      obtain ⟨rfl, rfl⟩ := h
      obtain ⟨e, hq⟩ := text_shift S hp ht
      exact ⟨hq, Sh.flat (by simp [V.tex, depV]) (by rw [e]; rfl)⟩
  | ext =>
    simp only [famR] at h ⊢
    cases ht : takeR d p 1 with
    | bad c r => rw [ht] at h; cases h
    | ok t p1 =>
      rw [ht] at h
      simp only [R.bind] at h
      obtain ⟨e, hp1⟩ := take_shift S hp ht
      cases hu : takeR d p1 n with
      | bad c r => rw [hu] at h; cases h
      | ok u p2 =>
        rw [hu] at h
        simp only [R.ok.injEq] at h
        obtain ⟨rfl, rfl⟩ := h
        obtain ⟨e2, hq⟩ := take_shift S hp1 hu
        refine ⟨hq, Sh.flat (by simp [V.xt, depV]) ?_⟩
        rw [e]
        simp only [R.bind]
        rw [e2]
  | list =>
    cases n0 with
    | zero => cases h
    | succ m =>
      simp only [famR, inD] at h
      cases ht : roundsN (itemN D d m) n p [] with
      | bad c r => rw [ht] at h; cases h
      | ok l p1 =>
        rw [ht] at h
        simp only [R.bind, R.ok.injEq] at h
        obtain ⟨rfl, rfl⟩ := h
        have hdep : depV (V.lis l) = depL l + 1 := by simp [V.lis, depV]
        cases D' with
        | zero =>
          refine ⟨?_, fun h => by omega, fun _ => ⟨fr', rfl⟩⟩
          exact (rounds_shift (k := 0) (D' := 0) (it' := fun p => match itemN D d m p with | .ok v q => if depV v = 0 then .ok v q else .bad 5 0 | .bad c r => .bad c r) (fun p v q hp hv => ⟨hin0 m rfl p v q hp hv, fun h0 => by
            simp only [Nat.zero_add, hv]; rw [if_pos (by omega)], fun h0 => by simp only [Nat.zero_add, hv]; rw [if_neg (by omega)]; exact ⟨0, rfl⟩⟩) n p [] l p1 hp ht).1
        | succ E =>
          obtain ⟨hq, m', hl, -, h3, h4⟩ := rounds_shift (fun p v q hp hv => hin m E rfl rfl p v q hp hv) n p [] l p1 hp ht
          rw [List.nil_append] at hl
          subst hl
          refine ⟨hq, fun hd => ?_, fun hd => ?_⟩
          · simp only [famR, inD]
            rw [h3 (by omega)]
            rfl
          · obtain ⟨r, hr⟩ := h4 (by omega)
            exact ⟨r, by simp only [famR, inD]; rw [hr]; rfl⟩
  | pairs =>
    cases n0 with
    | zero => cases h
    | succ m =>
      simp only [famR, inD] at h
      cases ht : pairsN D (itemN D d m) n p [] with
      | bad c r => rw [ht] at h; cases h
      | ok l p1 =>
        rw [ht] at h
        simp only [R.bind, R.ok.injEq] at h
        obtain ⟨rfl, rfl⟩ := h
        have hdep : depV (V.map l) = depL l + 1 := by simp [V.map, depV]
        cases D' with
        | zero =>
          refine ⟨?_, fun h => by omega, fun _ => ⟨fr', rfl⟩⟩
          exact (pairs_shift (k := 0) (D' := 0) (it' := fun p => match itemN D d m p with | .ok v q => if depV v = 0 then .ok v q else .bad 5 0 | .bad c r => .bad c r) (fun p v q hp hv => ⟨hin0 m rfl p v q hp hv, fun h0 => by
            simp only [Nat.zero_add, hv]; rw [if_pos (by omega)], fun h0 => by simp only [Nat.zero_add, hv]; rw [if_neg (by omega)]; exact ⟨0, rfl⟩⟩) n p [] l p1 hp ht).1
        | succ E =>
          obtain ⟨hq, m', hl, h3, h4⟩ := pairs_shift (fun p v q hp hv => hin m E rfl rfl p v q hp hv) n p [] l p1 hp ht
          rw [depL_nil] at hl
          refine ⟨hq, fun hd => ?_, fun hd => ?_⟩
          · simp only [famR, inD]
            rw [h3 (by omega)]
            rfl
          · obtain ⟨r, hr⟩ := h4 (by omega)
            exact ⟨r, by simp only [famR, inD]; rw [hr]; rfl⟩
theorem itemF_shift (n0 D' : Nat) (hin : ∀ m E, n0 = m + 1 → D' = E + 1 → ∀ p v q, p ≤ d.size → itemN D d m p = .ok v q → q ≤ d.size ∧ Sh k E v q (itemN D s E (k + p)))
  (hin0 : ∀ m, n0 = m + 1 → ∀ p v q, p ≤ d.size → itemN D d m p = .ok v q → q ≤ d.size) (p : Nat) (v : V) (q : Nat) (hp : p ≤ d.size) (h : itemF D d (inD D d n0) p = .ok v q) :
    q ≤ d.size ∧ Sh k D' v q (itemF D s (inD D s D') (k + p)) := by
  unfold itemF at h ⊢
  cases ht : takeR d p 1 with
  | bad c r => rw [ht] at h; cases h
  | ok t p1 =>
    rw [ht] at h
    obtain ⟨e, hp1⟩ := take_shift S hp ht
    rw [e]
    simp only [R.bind] at h ⊢
    cases hpk : pickN ((bl t).headD 0) with
    | none => rw [hpk] at h; cases h
    | some x =>
      obtain ⟨f, n, w⟩ := x
      rw [hpk] at h
      simp only at h ⊢
      by_cases hw : w = 0
      · rw [if_pos hw] at h ⊢
        exact fam_shift S F hin hin0 _ _ f n p1 hp1 h
      · rw [if_neg hw] at h ⊢
        cases hu : takeR d p1 w with
        | bad c r => rw [hu] at h; cases h
        | ok u p2 =>
          rw [hu] at h
          obtain ⟨e2, hp2⟩ := take_shift S hp1 hu
          rw [e2]
          exact fam_shift S F hin hin0 _ _ f _ p2 hp2 h
theorem item_shift : ∀ (n0 D' p : Nat) (v : V) (q : Nat), p ≤ d.size → itemN D d n0 p = .ok v q → q ≤ d.size ∧ Sh k D' v q (itemN D s D' (k + p)) := by
  intro n0
  induction n0 with
  | zero =>
    intro D' p v q hp h
    rw [itemN_inD] at h ⊢
    exact itemF_shift S F 0 D' (fun m E h => by omega) (fun m h => by omega) p v q hp h
  | succ n0 ih =>
    intro D' p v q hp h
    rw [itemN_inD] at h ⊢
    exact itemF_shift S F (n0 + 1) D' (fun m E h1 h2 p v q hp hv => (by have e : n0 = m := (by omega); subst e; exact ih E p v q hp hv))
      (fun m h1 p v q hp hv => (by have e : n0 = m := (by omega); subst e; exact (ih 0 p v q hp hv).1)) p v q hp h
end
end Go.Proofs.YtiemkfibpfndaaaGreatDoor

/- cruciblelaw01.SameValue answers true of what is one value. -/
namespace Go.Proofs.YtiemkfibpfndaaaGreatDoor
open Go.RowKit

set_option maxRecDepth 100000 in
theorem sameNat_ok (A A' : Option Addr) (c c' n : Nat) (l : List Nat) (w : World) (hn : l.length = n) (h : Sl EU w A c l) (h' : Sl EU w A' c' l) :
    Calls Tryz.prog 30 #[.slice A n c, .slice A' n c'] w fun e w' => e = .returned (.bool true) ∧ Keep nob w w' := by
  have hle := h.le
  have hcc := h.cap
  rw [hn] at hle
  have H := Lib.hid h
  have H' := Lib.hid h'
  have HN := Lib.hid hn
  clear h h' hn
  go_enter Tryz.func30, Tryz.ntmps30
  go_wp2
  go_loopw [5] (fun u5 wr => ∃ i : Nat, i ≤ n ∧ u5 = .int .i64 (i : Int) ∧ Hid (Keep nob w wr)) (fun u5 _ => n - (intOf u5).toNat)
  case atStart => exact ⟨0, Nat.zero_le _, rfl, Lib.hid (Keep.refl _ _)⟩
  case round =>
    obtain ⟨i, hi, rfl, HK⟩ := hrel
    rcases Nat.lt_or_ge i n with hlt | hge
    · have hd : decide ((i : Int) < (n : Int)) = true := by rw [decide_eq_true_iff]; omega
      have hi0 : (0 : Int) ≤ (i : Int) := by omega
      have hi1 : (i : Int) < (n : Int) := by omega
      have j5 : IntKind.i64.wrap ((i : Int) + 1) = (i : Int) + 1 := by rw [IntWalk.i64_left, IntWalk.wrap64_in _ ⟨by omega, by omega⟩]
      obtain ⟨x, HX⟩ : ∃ x, Hid (l.getD i 0 = x) := ⟨_, Lib.hid rfl⟩
      have hln : l ≠ [] := fun e => by have := HN.out; rw [e] at this; simp at this; omega
      obtain ⟨b, o, rfl, -⟩ := H.out.at_ hln
      obtain ⟨b', o', rfl, -⟩ := H'.out.at_ hln
      have HCE : Hid (∀ w', Kept wr w' → w'.cell? ⟨b, o + i, none⟩ = some (.int .u32 (x : Int)) ∧ w'.cell? ⟨b', o' + i, none⟩ = some (.int .u32 (x : Int))) := Lib.hid (fun w' hk =>
        ⟨sl_cell (H.out.keep (HK.out.then_ hk) (fun ⟨_, _, h⟩ => h)) (by rw [HN.out]; exact hlt) HX.out, sl_cell (H'.out.keep (HK.out.then_ hk) (fun ⟨_, _, h⟩ => h)) (by rw [HN.out]; exact hlt) HX.out⟩)
      clear hln
      go_upto_region 6 with (fail)
      refine wp_region_kept (by kernel_rfl) (by kernel_rfl) (QV.out ?_)
      repeat (first
        | (refine kq_skip (by rfl) (fun K hK => ?_); go_simp; refine hK _ ?_; clear hK K)
        | (refine kq_want (by rfl) (fun K hK => ?_); first
            | (refine BigFrame.quiet_move _ rfl ?_; go_simp; refine hK _ ?_; clear hK K)
            | (refine kq_still ?_ (fun w' hw' => ?_) ?_; rotate_left; (obtain ⟨c1, c2⟩ := HCE.out w' hw'; go_simp; first | done | exact rfl); go_simp; refine hK _ ?_; clear hK K)
            | (go_simp; apply Exists.intro; refine ⟨fun w' hw' => ?_, hK _ ?_⟩; (first | (fail)); rintro e w'' ⟨rfl, hk''⟩; exact ⟨rfl, hw'.then_ hk''⟩; clear hK K)))
      refine ⟨wpQuiet_nil ?_⟩
      intro w9 hk9
      have HK9 := Lib.hid (HK.out.then_ hk9)
      clear hk9
      go_wp2
      exact ⟨⟨i + 1, by omega, rfl, HK9⟩, by simp [intOf]; omega⟩
    · obtain rfl : i = n := by omega
      have hd : decide ((i : Int) < (i : Int)) = false := by rw [decide_eq_false_iff_not]; omega
      go_wp2
      go_ret
      exact ⟨rfl, HK.out⟩
set_option maxRecDepth 100000 in
theorem sameInt_ok (neg : Bool) (A A' : Option Addr) (c c' n : Nat) (l : List Nat) (w : World) (hn : l.length = n) (h : Sl EU w A c l) (h' : Sl EU w A' c' l) :
    Calls Tryz.prog 22 #[.agg #[.bool neg, .slice A n c], .agg #[.bool neg, .slice A' n c']] w fun e w' => e = .returned (.bool true) ∧ Keep nob w w' := by
  have HC := Lib.hid (fun (w' : World) (hk : Kept w w') => sameNat_ok A A' c c' n l w' hn (h.keep hk (fun ⟨_, _, h⟩ => h)) (h'.keep hk (fun ⟨_, _, h⟩ => h)))
  clear h h' hn
  go_enter Tryz.func22, Tryz.ntmps22
  go_wp2_with (go_at_call 30; go_must (refine (HC.out _ (((Keep.refl _ _).alloc _).alloc _)).mono ?_); rintro e w1 ⟨rfl, hk1⟩)
  go_ret
  exact ⟨rfl, (((Keep.refl _ _).alloc _).alloc _).then_ hk1⟩

/-- what SameValue answers of a value -/
def SameC (v : V) : Prop := ∀ (r r' : Raw) (D D' : Nat → Prop) (w : World), Tr w D r v → Tr w D' r' v →
  Calls Tryz.prog 12 #[ER.val r, ER.val r'] w fun e w' => e = .returned (.bool true) ∧ Keep nob w w'
theorem range_keep0 {w w' : World} {b o : Nat} {l : List Value} (k : Keep nob w w') (h : w.rangeAt b o l) : w'.rangeAt b o l := fun j v hj => k.cell (h j v hj) (fun h => h)
theorem cells_val0 {w : World} {b p : Nat} {r : Raw} (h : w.rangeAt b p (ER.cells r)) : w.cell? ⟨b, p, none⟩ = some (.int .i8 (r.kind : Int)) ∧ w.cell? ⟨b, p + 1, none⟩ = some (.int .u64 (r.n : Int)) ∧ w.cell? ⟨b, p + 2, none⟩ = some (.bool r.neg) ∧
    w.cell? ⟨b, p + 3, none⟩ = some (.slice r.mA r.mL r.mC) ∧ w.cell? ⟨b, p + 4, none⟩ = some (.int .u64 (r.bits : Int)) ∧ w.cell? ⟨b, p + 5, none⟩ = some (.int .i8 r.ext) ∧ w.cell? ⟨b, p + 6, none⟩ = some (.string r.text) ∧ w.cell? ⟨b, p + 7, none⟩ = some (.slice r.kA r.kL r.kC) :=
  ⟨h 0 _ rfl, h 1 _ rfl, h 2 _ rfl, h 3 _ rfl, h 4 _ rfl, h 5 _ rfl, h 6 _ rfl, h 7 _ rfl⟩
theorem nobD0 (D : Nat → Prop) : ∀ b, D b → ¬ nob b := fun _ _ h => h
set_option maxRecDepth 100000 in
set_option maxHeartbeats 1000000 in
theorem sameValues_ok (vs : List V) (hall : ∀ v ∈ vs, SameC v) (rs rs' : List Raw) (A A' : Option Addr) (c c' n : Nat) (D D' : Nat → Prop) (w : World) (hn : rs.length = n) (h : Sl ER w A c rs) (h' : Sl ER w A' c' rs')
    (ht : TrL w D rs vs) (ht' : TrL w D' rs' vs) :
    Calls Tryz.prog 23 #[.slice A n c, .slice A' n c'] w fun e w' => e = .returned (.bool true) ∧ Keep nob w w' := by
  have hle := h.le
  have hcc := h.cap
  rw [hn] at hle
  have H := Lib.hid h
  have H' := Lib.hid h'
  have HV : Hid (vs.length = n) := Lib.hid (by rw [← ht.len, hn])
  have HN' : Hid (rs'.length = n) := Lib.hid (by rw [ht'.len, ← ht.len, hn])
  have HN := Lib.hid hn
  have HT := Lib.hid ht
  have HT' := Lib.hid ht'
  have HALL := Lib.hid hall
  clear h h' hn ht ht' hall
  go_enter Tryz.func23, Tryz.ntmps23
  go_wp2
  go_loopw [5] (fun u5 wr => ∃ i : Nat, i ≤ n ∧ u5 = .int .i64 (i : Int) ∧ Hid (Keep nob w wr)) (fun u5 _ => n - (intOf u5).toNat)
  case atStart => exact ⟨0, Nat.zero_le _, rfl, Lib.hid (Keep.refl _ _)⟩
  case round =>
    obtain ⟨i, hi, rfl, HK⟩ := hrel
    rcases Nat.lt_or_ge i n with hlt | hge
    · have hd : decide ((i : Int) < (n : Int)) = true := by rw [decide_eq_true_iff]; omega
      have hi0 : (0 : Int) ≤ (i : Int) := by omega
      have hi1 : (i : Int) < (n : Int) := by omega
      have j5 : IntKind.i64.wrap ((i : Int) + 1) = (i : Int) + 1 := by rw [IntWalk.i64_left, IntWalk.wrap64_in _ ⟨by omega, by omega⟩]
      have hil : i < rs.length := by rw [HN.out]; exact hlt
      have hil' : i < rs'.length := by rw [HN'.out]; exact hlt
      have hvl : i < vs.length := by rw [HV.out]; exact hlt
      obtain ⟨b, o, rfl, hx⟩ := (H.out.keep HK.out (fun ⟨_, _, h⟩ => h)).elem (i := i) hil
      obtain ⟨b', o', rfl, hy⟩ := (H'.out.keep HK.out (fun ⟨_, _, h⟩ => h)).elem (i := i) hil'
      obtain ⟨r, HR⟩ : ∃ r, Hid (rs[i] = r) := ⟨_, Lib.hid rfl⟩
      obtain ⟨r', HR'⟩ : ∃ r', Hid (rs'[i] = r') := ⟨_, Lib.hid rfl⟩
      rw [HR.out] at hx
      rw [HR'.out] at hy
      have hx1 : wr.rangeAt b (o + i * 8) (ER.cells r) := hx
      have hy1 : wr.rangeAt b' (o' + i * 8) (ER.cells r') := hy
      have HCE : Hid (∀ w', Kept wr w' → w'.rangeAt b (o + i * 8) (ER.cells r) ∧ w'.rangeAt b' (o' + i * 8) (ER.cells r')) := Lib.hid (fun w' hk => ⟨range_keep0 hk hx1, range_keep0 hk hy1⟩)
      have HC := Lib.hid (fun (w' : World) (hk : Kept wr w') => HALL.out vs[i] (List.getElem_mem hvl) r r' D D' w' (by rw [← HR.out]; exact Tr.keep (HK.out.then_ hk) (nobD0 D) _ _ (HT.out.get i hil hvl)) (by rw [← HR'.out]; exact Tr.keep (HK.out.then_ hk) (nobD0 D') _ _ (HT'.out.get i hil' hvl)))
      simp only [ER] at HC
      clear hx hy hx1 hy1
      go_upto_region 6 with (fail)
      refine wp_region_kept (by kernel_rfl) (by kernel_rfl) (QV.out ?_)
      repeat (first
        | (refine kq_skip (by rfl) (fun K hK => ?_); go_simp; refine hK _ ?_; clear hK K)
        | (refine kq_want (by rfl) (fun K hK => ?_); first
            | (refine BigFrame.quiet_move _ rfl ?_; go_simp; refine hK _ ?_; clear hK K)
            | (refine kq_still ?_ (fun w' hw' => ?_) ?_; rotate_left; (obtain ⟨c1, c2⟩ := HCE.out w' hw'; obtain ⟨a0, a1, a2, a3, a4, a5, a6, a7⟩ := cells_val0 c1; obtain ⟨b0, b1, b2, b3, b4, b5, b6, b7⟩ := cells_val0 c2; go_simp; first | done | exact rfl); go_simp; refine hK _ ?_; clear hK K)
            | (go_simp; apply Exists.intro; refine ⟨fun w' hw' => ?_, hK _ ?_⟩; (first | (go_at_call 12; refine (HC.out w' hw').mono ?_)); rintro e w'' ⟨rfl, hk''⟩; exact ⟨rfl, hw'.then_ hk''⟩; clear hK K)))
      refine ⟨wpQuiet_nil ?_⟩
      intro w9 hk9
      have HK9 := Lib.hid (HK.out.then_ hk9)
      clear hk9
      go_wp2
      exact ⟨⟨i + 1, by omega, rfl, HK9⟩, by simp [intOf]; omega⟩
    · obtain rfl : i = n := by omega
      have hd : decide ((i : Int) < (i : Int)) = false := by rw [decide_eq_false_iff_not]; omega
      go_wp2
      go_ret
      exact ⟨rfl, HK.out⟩
set_option maxRecDepth 100000 in
set_option maxHeartbeats 1000000 in
theorem same_step (k n : Nat) (neg : Bool) (mag : List Nat) (bits : Nat) (ext : Int) (text : ByteArray) (kids : List V) (hall : ∀ v ∈ kids, SameC v) : SameC (.mk k n neg mag bits ext text kids) := by
  rintro ⟨rk, rn, rneg, rA, rL, rC, rbits, rext, rtext, rkA, rkL, rkC⟩ ⟨rk', rn', rneg', rA', rL', rC', rbits', rext', rtext', rkA', rkL', rkC'⟩ D D' w ht ht'
  obtain ⟨h0, h1, h2, h3, h4, h5, ⟨hL, hsl, -⟩, rs, hkL, hks, -, hkt⟩ := ht
  obtain ⟨g0, g1, g2, g3, g4, g5, ⟨hL', hsl', -⟩, rs', hkL', hks', -, hkt'⟩ := ht'
  dsimp only at h0 h1 h2 h3 h4 h5 g0 g1 g2 g3 g4 g5 hL hsl hkL hks hkt hL' hsl' hkL' hks' hkt' ⊢
  subst h0 h1 h2 h3 h4 h5 g0 g1 g2 g3 g4 g5 hL hL'
  have hr : rs'.length = rs.length := by rw [hkt'.len, hkt.len]
  rw [hr] at hkL'
  subst hkL hkL'
  have HI := Lib.hid (fun (w' : World) (hk : Kept w w') => sameInt_ok rneg' rA rA' rC rC' mag.length mag w' rfl (hsl.keep hk (fun ⟨_, _, h⟩ => h)) (hsl'.keep hk (fun ⟨_, _, h⟩ => h)))
  have HV := Lib.hid (fun (w' : World) (hk : Kept w w') => sameValues_ok kids hall rs rs' rkA rkA' rkC rkC' rs.length D D' w' rfl (hks.keep hk (fun ⟨_, _, h⟩ => h)) (hks'.keep hk (fun ⟨_, _, h⟩ => h)) (TrL.keep hk (nobD0 D) _ _ hkt) (TrL.keep hk (nobD0 D') _ _ hkt'))
  obtain ⟨nk, HNK⟩ : ∃ nk, Hid (rs.length = nk) := ⟨_, Lib.hid rfl⟩
  obtain ⟨nm, HNM⟩ : ∃ nm, Hid (mag.length = nm) := ⟨_, Lib.hid rfl⟩
  rw [HNK.out] at HV
  rw [HNM.out] at HI
  simp only [HNK.out, HNM.out]
  clear hall hsl hks hkt hsl' hks' hkt' hr
  simp only [ER]
  go_enter Tryz.func12, Tryz.ntmps12
  go_wp2_with (first | (go_at_call 22; go_must (refine (HI.out _ (((Keep.refl _ _).alloc _).alloc _)).mono ?_); rintro e w1 ⟨rfl, hk1⟩; have d7 : w1.cell? ⟨w.heap.size, 7, none⟩ = some (.slice rkA nk rkC) := hk1.cell (by simp) (fun h => h); have d8 : w1.cell? ⟨w.heap.size + 1, 7, none⟩ = some (.slice rkA' nk rkC') := hk1.cell (by simp) (fun h => h); have HK1 : Hid (Keep nob w w1) := Lib.hid ((((Keep.refl _ _).alloc _).alloc _).then_ hk1); clear hk1) | (go_at_call 23; go_must (refine (HV.out _ HK1.out).mono ?_); rintro e w2 ⟨rfl, hk2⟩))
  go_ret
  exact ⟨rfl, HK1.out.then_ hk2⟩
theorem same_ok : ∀ v, SameC v
  | .mk k n neg mag bits ext text kids => same_step k n neg mag bits ext text kids (fun v _hv => same_ok v)
termination_by v => SizeOf.sizeOf v
decreasing_by
  have := List.sizeOf_lt_of_mem _hv
  simp
  omega
end Go.Proofs.YtiemkfibpfndaaaGreatDoor

/- cruciblelaw23.wide: a first byte and a number in n bytes, as a string. -/
namespace Go.Proofs.YtiemkfibpfndaaaGreatDoor
open Go.RowKit

/-- the string of these bytes -/
def Bt (l : List Nat) : ByteArray := ⟨(l.map UInt8.ofNat).toArray⟩
theorem bl_Bt {l : List Nat} (h : B8 l) : bl (Bt l) = l := by
  unfold bl Bt
  simp only [List.map_map]
  have : ∀ x ∈ l, (UInt8.toNat ∘ UInt8.ofNat) x = x := fun x hx => by simp [Nat.mod_eq_of_lt (h x hx)]
  rw [List.map_congr_left this, List.map_id']
theorem Bt_bl (s : ByteArray) : Bt (bl s) = s := by
  unfold bl Bt
  simp only [List.map_map]
  have : ∀ x ∈ s.data.toList, (UInt8.ofNat ∘ UInt8.toNat) x = x := fun x _ => by simp
  rw [List.map_congr_left this, List.map_id']
theorem Bt_size (l : List Nat) : (Bt l).size = l.length := by simp [Bt, ByteArray.size]
/-- a number's n bytes, the highest first -/
def beL : Nat → Nat → List Nat
  | 0, _ => []
  | n + 1, x => x / 256 ^ n % 256 :: beL n x
theorem beL_len : ∀ n x, (beL n x).length = n
  | 0, _ => rfl
  | n + 1, x => by simp [beL, beL_len n x]
theorem beL_8 : ∀ n x, B8 (beL n x)
  | 0, _ => fun _ h => by simp [beL] at h
  | n + 1, x => fun y h => by
    simp only [beL, List.mem_cons] at h
    rcases h with rfl | h
    · exact Nat.mod_lt _ (by decide)
    · exact beL_8 n x y h
theorem B8.cons {a : Nat} {l : List Nat} (ha : a < 256) (h : B8 l) : B8 (a :: l) := fun x hx => by
  rcases List.mem_cons.1 hx with rfl | hx
  · exact ha
  · exact h x hx
theorem B8.app {l l' : List Nat} (h : B8 l) (h' : B8 l') : B8 (l ++ l') := fun x hx => by
  rcases List.mem_append.1 hx with hx | hx
  · exact h x hx
  · exact h' x hx

/-- 'string(b)' -/
theorem str_conv {w : World} {A : Option Addr} {c n : Nat} {l : List Nat} (h : Sl EB w A c l) (hn : l.length = n) (hb : B8 l) (h0 : l ≠ []) : (convert 23 9 (.slice A n c)).run Tryz.prog w = .ok (.string (Bt l)) w := by
  obtain ⟨b, o, rfl, hr⟩ := h.at_ h0
  have hlen : (l.map UInt8.ofNat).length = n := by simpa using hn
  subst hlen
  refine run_convert_bytes_back (P := Tryz.prog) w 23 9 5 ⟨b, o, none⟩ c (l.map UInt8.ofNat) Tryz.underlying23 Tryz.underlying5 Tryz.underlying9 (fun j hj => ?_)
  have hj' : j < l.length := by simpa using hj
  obtain ⟨b1, o1, e1, hx⟩ := h.elem (i := j) hj'
  simp only [Option.some.injEq, Addr.mk.injEq, and_true] at e1
  obtain ⟨rfl, rfl⟩ := e1
  have hx1 := hx 0 _ rfl
  have hv : l[j] < 256 := hb _ (List.getElem_mem hj')
  simp only [EB, Nat.add_zero, Nat.mul_one] at hx1
  rw [Addr.add_mid, hx1]
  simp [Nat.mod_eq_of_lt hv]

theorem infoByte : (Tryz.prog.info? 5).map (fun i => (i.zero, i.size, i.bytes)) = some (some (.int .u8 0), EB.sz, 1) := by kernel_rfl
end Go.Proofs.YtiemkfibpfndaaaGreatDoor

/- What is read behind a head: bytes, extensions, texts, lists, maps. Plain Lean over the readings. -/
namespace Go.Proofs.YtiemkfibpfndaaaGreatDoor
variable (D : Words)

/-- a reading's value, if it is one -/
def R.val? {α : Type} : R α → Option α
  | .ok v _ => some v
  | .bad _ _ => none

theorem beN_fold1 : ∀ (l : List Nat) (a : Nat), l.foldl (fun x b => x * 256 + b) a = a * 256 ^ l.length + l.foldl (fun x b => x * 256 + b) 0
  | [], a => by simp
  | b :: l, a => by
    rw [List.foldl_cons, List.foldl_cons, beN_fold1 l (a * 256 + b), beN_fold1 l (0 * 256 + b), List.length_cons, Nat.pow_succ]
    rw [Nat.add_mul, Nat.zero_mul, Nat.zero_add, Nat.mul_assoc, Nat.mul_comm 256, Nat.add_assoc]
theorem beN_be : ∀ n x, beN (beL n x) = x % 256 ^ n
  | 0, x => by simp [beL, beN, Nat.mod_one]
  | n + 1, x => by
    have ih := beN_be n x
    unfold beN at ih ⊢
    rw [beL, List.foldl_cons, beN_fold1, ih, beL_len, Nat.zero_mul, Nat.zero_add, Nat.pow_succ, Nat.mod_mul, Nat.mul_comm, Nat.add_comm]
theorem beN_be_lt {n x : Nat} (h : x < 256 ^ n) : beN (beL n x) = x := by rw [beN_be, Nat.mod_eq_of_lt h]
theorem Bt_app (l l' : List Nat) : Bt (l ++ l') = Bt l ++ Bt l' := by
  apply ByteArray.ext
  simp [Bt, ByteArray.data_append]

/-- the head and how many it tells -/
theorem head_wide {f w x n : Nat} {fam : Fam} (hf : f < 256) (hp : pickN f = some (fam, n, w)) (hw : w ≠ 0) (hx : x < 256 ^ w) (r : ByteArray) (inner : Option (Nat → R V)) :
    itemF D (Bt (f :: beL w x) ++ r) inner 0 = famR D (Bt (f :: beL w x) ++ r) inner 0 fam x (w + 1) := by
  have S := Shift.first (Bt (f :: beL w x)) r
  have hsz : (Bt (f :: beL w x)).size = w + 1 := by rw [Bt_size, List.length_cons, beL_len]
  have t1 : takeR (Bt (f :: beL w x)) 0 1 = .ok (Bt [f]) 1 := by
    unfold takeR
    rw [if_neg (by rw [hsz]; omega)]
    congr 1
    apply ByteArray.ext
    simp [Bt, ByteArray.data_extract]
  have t2 : takeR (Bt (f :: beL w x)) 1 w = .ok (Bt (beL w x)) (1 + w) := by
    unfold takeR
    rw [if_neg (by rw [hsz]; omega)]
    congr 1
    have := Shift.last (Bt [f]) (Bt (beL w x))
    have h1 := this.ex 0 w (by rw [Bt_size, beL_len]; omega)
    rw [← Bt_app] at h1
    rw [Bt_size, List.length_singleton, Nat.add_zero, Nat.zero_add] at h1
    rw [show f :: beL w x = [f] ++ beL w x from rfl, h1]
    have hz := ByteArray.extract_zero_size (b := Bt (beL w x))
    rwa [Bt_size, beL_len] at hz
  have e1 := (take_shift S (Nat.zero_le _) t1).1
  have e2 := (take_shift S (by rw [hsz]; omega) t2).1
  simp only [Nat.zero_add] at e1 e2
  unfold itemF
  rw [e1]
  simp only [R.bind]
  rw [bl_Bt (B8.cons hf (fun _ h => by simp at h))]
  simp only [List.headD_cons, hp]
  rw [if_neg hw, e2]
  simp only
  rw [bl_Bt (beL_8 w x), beN_be_lt hx, Nat.add_comm 1 w]
theorem head_short {f n : Nat} {fam : Fam} (hf : f < 256) (hp : pickN f = some (fam, n, 0)) (r : ByteArray) (inner : Option (Nat → R V)) :
    itemF D (Bt [f] ++ r) inner 0 = famR D (Bt [f] ++ r) inner 0 fam n 1 := by
  have S := Shift.first (Bt [f]) r
  have t1 : takeR (Bt [f]) 0 1 = .ok (Bt [f]) 1 := by
    unfold takeR
    rw [if_neg (by rw [Bt_size]; simp)]
    congr 1
  have e1 := (take_shift S (Nat.zero_le _) t1).1
  simp only [Nat.zero_add] at e1
  unfold itemF
  rw [e1]
  simp only [R.bind]
  rw [bl_Bt (B8.cons hf (fun _ h => by simp at h))]
  simp only [List.headD_cons, hp, if_true]
theorem take_all (r : ByteArray) : takeR r 0 r.size = .ok r r.size := by
  unfold takeR
  rw [if_neg (by omega), Nat.zero_add, ByteArray.extract_zero_size]
theorem take_rest (h r : ByteArray) : takeR (h ++ r) h.size r.size = .ok r (h ++ r).size := by
  have := (take_shift (Shift.last h r) (Nat.zero_le _) (take_all r)).1
  rwa [Nat.add_zero, ← ByteArray.size_append] at this

theorem bytes_rest (h r : ByteArray) (inner : Option (Nat → R V)) (fr : Nat) : famR D (h ++ r) inner fr .bytes r.size h.size = .ok (V.byt r) (h ++ r).size := by
  simp only [famR]
  rw [take_rest]
  rfl
theorem ext_rest (h : ByteArray) (t : Nat) (ht : t < 256) (r : ByteArray) (inner : Option (Nat → R V)) (fr : Nat) : famR D (h ++ (Bt [t] ++ r)) inner fr .ext r.size h.size = .ok (V.xt (if t < 128 then (t : Int) else (t : Int) - 256) r) (h ++ (Bt [t] ++ r)).size := by
  have t1 : takeR (Bt [t]) 0 1 = .ok (Bt [t]) 1 := take_all (Bt [t])
  have S1 : Shift (Bt [t]) (h ++ (Bt [t] ++ r)) h.size := by rw [← ByteArray.append_assoc]; exact Shift.mk' h (Bt [t]) r
  have e1 := (take_shift S1 (Nat.zero_le _) t1).1
  have e2 := take_rest (h ++ Bt [t]) r
  rw [ByteArray.append_assoc, ByteArray.size_append, Bt_size, List.length_singleton] at e2
  rw [Nat.add_zero] at e1
  simp only [famR]
  rw [e1]
  simp only [R.bind]
  rw [e2]
  simp only
  rw [bl_Bt (B8.cons ht (fun _ h => by simp at h))]
  simp only [List.headD_cons]
  rfl
/-- a text that is all the rest: by its bytes alone -/
theorem text_rest (h r : ByteArray) (inner : Option (Nat → R V)) (fr : Nat) : famR D (h ++ r) inner fr .text r.size h.size = match scanN r.size (bl r) r.size with
    | some i => .bad 3 (h.size + i)
    | none => .ok (V.tex r) (h ++ r).size := by
  have e0 : (h ++ r).size - h.size = r.size := by rw [ByteArray.size_append]; omega
  have e1 : (h ++ r).extract h.size (h.size + min r.size r.size) = r := by
    have := (Shift.last h r).ex 0 r.size (by omega)
    rw [Nat.add_zero, Nat.zero_add, ByteArray.extract_zero_size] at this
    rwa [Nat.min_self]
  simp only [famR, textR]
  rw [e0, e1]
  cases scanN r.size (bl r) r.size with
  | some i => rfl
  | none => rw [take_rest]; rfl

/-! ### documents side by side -/
def cat : List ByteArray → ByteArray
  | [] => ByteArray.empty
  | d :: l => d ++ cat l
theorem cat_app : ∀ (l : List ByteArray) (d : ByteArray), cat (l ++ [d]) = cat l ++ d
  | [], d => by simp [cat]
  | x :: l, d => by simp only [List.cons_append, cat, cat_app l d, ByteArray.append_assoc]
/-- a document of this value -/
def Doc (d : ByteArray) (v : V) : Prop := readN D d = .ok v d.size ∧ depV v ≤ 127
theorem doc_item {d : ByteArray} {v : V} (h : Doc D d v) : itemN D d 128 0 = .ok v d.size := by
  obtain ⟨h, _⟩ := h
  unfold readN at h
  cases hi : itemN D d 128 0 with
  | bad c q => rw [hi] at h; cases h
  | ok v' q =>
    rw [hi] at h
    simp only [R.bind] at h
    split at h
    · cases h
    · simp only [R.ok.injEq] at h
      obtain ⟨rfl, rfl⟩ := h
      rfl
/-- of a document that is read the value is the document's -/
theorem read_doc {d : ByteArray} {v : V} {q : Nat} (h : readN D d = .ok v q) : q = d.size := by
  unfold readN at h
  have hle := itemN_le D d 128 0 (Nat.zero_le _)
  cases hi : itemN D d 128 0 with
  | bad c q => rw [hi] at h; cases h
  | ok v' q' =>
    rw [hi] at h hle
    simp only [R.bind] at h
    split at h
    · cases h
    · simp only [R.ok.injEq] at h
      obtain ⟨rfl, rfl⟩ := h
      have : q' ≤ d.size := hle
      omega
section
variable {D}
theorem rounds_cat (F : Flat D) : ∀ (ds : List (ByteArray × V)) (pre post : ByteArray) (acc : List V), (∀ x ∈ ds, Doc D x.1 x.2) →
    roundsN (itemN D (pre ++ (cat (ds.map (·.1)) ++ post)) 127) ds.length pre.size acc = .ok (acc ++ ds.map (·.2)) (pre.size + (cat (ds.map (·.1))).size)
  | [], pre, post, acc, _ => by simp [roundsN, cat, ByteArray.size_empty]
  | (d, v) :: ds, pre, post, acc, h => by
    have hd := h (d, v) List.mem_cons_self
    have e : pre ++ (cat (((d, v) :: ds).map (·.1)) ++ post) = pre ++ d ++ (cat (ds.map (·.1)) ++ post) := by simp only [List.map_cons, cat, ByteArray.append_assoc]
    have hs := (item_shift (Shift.mk' pre d (cat (ds.map (·.1)) ++ post)) F 128 127 0 v d.size (Nat.zero_le _) (doc_item D hd)).2.1 hd.2
    have ih := rounds_cat F ds (pre ++ d) post (acc ++ [v]) (fun x hx => h x (List.mem_cons_of_mem _ hx))
    rw [e, List.length_cons, roundsN]
    rw [Nat.add_zero] at hs
    rw [hs]
    simp only [R.bind]
    rw [← ByteArray.size_append, ih]
    simp only [List.map_cons, cat, ByteArray.size_append, List.append_assoc, List.singleton_append, Nat.add_assoc]
/-- keys from j on, each with a document -/
def pairsD : Nat → List (ByteArray × V) → List (ByteArray)
  | _, [] => []
  | j, (d, _) :: ds => (Bt (0xcd :: beL 2 j) ++ d) :: pairsD (j + 1) ds
def pairsV (D : Words) : Nat → List (ByteArray × V) → List V
  | _, [] => []
  | j, (_, v) :: ds => D.whole j :: v :: pairsV D (j + 1) ds
theorem pairsD_app : ∀ (ds : List (ByteArray × V)) (j : Nat) (d : ByteArray) (v : V), pairsD j (ds ++ [(d, v)]) = pairsD j ds ++ [Bt (0xcd :: beL 2 (j + ds.length)) ++ d]
  | [], j, d, v => by simp [pairsD]
  | (x, y) :: ds, j, d, v => by simp only [List.cons_append, pairsD, pairsD_app ds (j + 1) d v, List.length_cons]; rw [show j + 1 + ds.length = j + (ds.length + 1) by omega]
theorem pairsV_len (j : Nat) (ds : List (ByteArray × V)) : (pairsV D j ds).length = 2 * ds.length := by
  induction ds generalizing j with
  | nil => rfl
  | cons x ds ih => obtain ⟨d, v⟩ := x; simp only [pairsV, List.length_cons, ih]; omega
theorem key_doc (j : Nat) (hj : j < 65536) (F : Flat D) : Doc D (Bt (0xcd :: beL 2 j)) (D.whole j) := by
  refine ⟨?_, by rw [F.whole]; exact Nat.zero_le _⟩
  unfold readN
  have h := head_wide D (f := 0xcd) (w := 2) (x := j) (n := 0) (fam := .whole) (by decide) rfl (by decide) hj ByteArray.empty (inD D (Bt (0xcd :: beL 2 j) ++ ByteArray.empty) 128)
  rw [ByteArray.append_empty] at h
  rw [itemN_inD, h]
  simp only [famR, R.bind]
  rw [if_neg (by rw [Bt_size, List.length_cons, beL_len]; omega), Bt_size, List.length_cons, beL_len]
theorem pairs_cat (F : Flat D) (hc : ∀ i, i < 15 → D.cmp (D.whole i) (D.whole (i + 1)) < 0) : ∀ (ds : List (ByteArray × V)) (j : Nat) (pre post : ByteArray) (acc : List V), (∀ x ∈ ds, Doc D x.1 x.2) → j + ds.length ≤ 15 → acc.length = 2 * j →
    (0 < j → acc.getD (2 * (j - 1)) V.nul = D.whole (j - 1)) →
    pairsN D (itemN D (pre ++ (cat (pairsD j ds) ++ post)) 127) ds.length pre.size acc = .ok (acc ++ pairsV D j ds) (pre.size + (cat (pairsD j ds)).size)
  | [], j, pre, post, acc, _, _, _, _ => by simp [pairsN, cat, pairsD, pairsV, ByteArray.size_empty]
  | (d, v) :: ds, j, pre, post, acc, h, hj, hacc, hk => by
    have hd := h (d, v) List.mem_cons_self
    simp only [List.length_cons] at hj
    have hkd := key_doc (D := D) j (by omega) F
    obtain ⟨kb, hkb⟩ : ∃ kb, kb = Bt (0xcd :: beL 2 j) := ⟨_, rfl⟩
    rw [← hkb] at hkd
    have e : pre ++ (cat (pairsD j ((d, v) :: ds)) ++ post) = pre ++ kb ++ (d ++ (cat (pairsD (j + 1) ds) ++ post)) := by simp only [pairsD, cat, ByteArray.append_assoc, hkb]
    have e2 : pre ++ (cat (pairsD j ((d, v) :: ds)) ++ post) = (pre ++ kb) ++ d ++ (cat (pairsD (j + 1) ds) ++ post) := by simp only [pairsD, cat, ByteArray.append_assoc, hkb]
    have h1 := (item_shift (Shift.mk' pre kb (d ++ (cat (pairsD (j + 1) ds) ++ post))) F 128 127 0 (D.whole j) kb.size (Nat.zero_le _) (doc_item D hkd)).2.1 hkd.2
    have h2 := (item_shift (Shift.mk' (pre ++ kb) d (cat (pairsD (j + 1) ds) ++ post)) F 128 127 0 v d.size (Nat.zero_le _) (doc_item D hd)).2.1 hd.2
    rw [← e, Nat.add_zero] at h1
    rw [← e2, Nat.add_zero] at h2
    have hpl : placeN D acc (D.whole j) (acc.length / 2) = j := by
      rw [hacc, Nat.mul_div_cancel_left _ (by decide)]
      cases j with
      | zero => rfl
      | succ i =>
        have h3 := hk (Nat.succ_pos _)
        simp only [Nat.add_sub_cancel] at h3
        unfold placeN
        rw [h3, if_neg (by have := hc i (by omega); omega)]
    have hdup : dupN D acc j (D.whole j) = false := by simp [dupN, hacc]
    have hins : insN acc j (D.whole j) v = acc ++ [D.whole j, v] := by
      unfold insN
      rw [List.take_of_length_le (by omega), List.drop_eq_nil_of_le (by omega)]
    have ih := pairs_cat F hc ds (j + 1) (pre ++ kb ++ d) post (acc ++ [D.whole j, v]) (fun x hx => h x (List.mem_cons_of_mem _ hx)) (by omega) (by simp [hacc]; omega) (fun _ => by
      rw [Nat.add_sub_cancel, List.getD_eq_getElem?_getD, List.getElem?_append_right (by omega), hacc, Nat.sub_self]
      rfl)
    rw [List.length_cons, pairsN, h1]
    simp only [R.bind]
    rw [hpl, hdup, if_neg (by simp), ← ByteArray.size_append, h2]
    simp only
    rw [hins]
    have e3 : pre ++ (cat (pairsD j ((d, v) :: ds)) ++ post) = pre ++ kb ++ d ++ (cat (pairsD (j + 1) ds) ++ post) := e2
    rw [e3, ← ByteArray.size_append, ih]
    simp only [pairsD, pairsV, cat, ByteArray.size_append, hkb, List.append_assoc, List.cons_append, List.nil_append]
    congr 1
    omega
/-- no value is nested deeper than there was room -/
theorem item_dep (F : Flat D) {s : ByteArray} {n p q : Nat} {v : V} (hp : p ≤ s.size) (h : itemN D s n p = .ok v q) : depV v ≤ n := by
  have S : Shift s s 0 := ⟨by omega, fun p n _ => by simp⟩
  have h1 := (item_shift S F n n p v q hp h).2.2
  rcases Nat.lt_or_ge n (depV v) with h2 | h2
  · obtain ⟨r, hr⟩ := h1 h2
    rw [Nat.zero_add, h] at hr
    cases hr
  · exact h2
theorem read_dep (F : Flat D) {s : ByteArray} {q : Nat} {v : V} (h : readN D s = .ok v q) : depV v ≤ 128 := by
  unfold readN at h
  cases hi : itemN D s 128 0 with
  | bad c q => rw [hi] at h; cases h
  | ok v' q' =>
    rw [hi] at h
    simp only [R.bind] at h
    split at h
    · cases h
    · simp only [R.ok.injEq] at h
      obtain ⟨rfl, rfl⟩ := h
      exact item_dep F (Nat.zero_le _) hi
end
theorem flatWd : Flat Wd := by
  refine ⟨fun n => ?_, fun n => ?_, fun n => ?_, fun n => ?_, fun t => ?_⟩
  · show depV (wholeV n) = 0; simp [wholeV, V.int, depV]
  · show depV (belowV n) = 0; simp [belowV, V.int, depV]
  · show depV (ofV 23 (-149) 8 n) = 0; unfold ofV; split <;> simp [V.int, V.flo, depV]
  · show depV (ofV 52 (-1074) 11 n) = 0; unfold ofV; split <;> simp [V.int, V.flo, depV]
  · show depV (twosV t) = 0; simp [twosV, V.int, depV]
theorem wholes_rise : ((List.range 15).all fun i => decide (cmpV (wholeV i) (wholeV (i + 1)) < 0)) = true := by kernel_rfl
theorem whole_rise (i : Nat) (h : i < 15) : Wd.cmp (Wd.whole i) (Wd.whole (i + 1)) < 0 := of_decide_eq_true (List.all_eq_true.1 wholes_rise i (List.mem_range.2 h))
end Go.Proofs.YtiemkfibpfndaaaGreatDoor

/- What may be: a node, a value; what is read may be. Plain Lean. -/
namespace Go.Proofs.YtiemkfibpfndaaaGreatDoor

/-! ### floats -/
theorem parts_odd {F X x : Nat} {L : Int} (hF : F ≤ 52) (hL : -1074 ≤ L) (hX : 2 ^ X ≤ 2048) (hL0 : L ≤ 0) (hE : L + ((2 ^ X : Nat) : Int) ≤ 1000) (hFX : (F : Int) + 1 + L + ((2 ^ X : Nat) : Int) - 3 ≤ 1024) {neg : Bool} {m : Nat} {e : Int} (h : partsN F L X x = some (neg, m, e)) :
    (m = 0 ∧ e = 0) ∨ ∃ j, m = 2 * j + 1 ∧ m < 9007199254740992 ∧ -1074 ≤ e ∧ (bitsN m : Int) + e ≤ 1024 := by
  obtain ⟨h1, h2, _⟩ := parts_bd hF hL hX hL0 hE h
  unfold partsN at h
  simp only at h
  split at h
  · cases h
  rename_i hinf
  split at h
  · simp only [Option.some.injEq, Prod.mk.injEq] at h
    obtain ⟨-, rfl, rfl⟩ := h
    exact .inl ⟨rfl, rfl⟩
  rename_i hz
  right
  simp only [Option.some.injEq, Prod.mk.injEq] at h
  obtain ⟨-, hm, he⟩ := h
  obtain ⟨size, hsize⟩ : ∃ size, size = x % 2 ^ (F + X) := ⟨_, rfl⟩
  rw [← hsize] at hm he hinf hz
  have hp : 0 < 2 ^ F := Nat.two_pow_pos F
  have hp2 : 2 ^ (F + 1) = 2 * 2 ^ F := by rw [Nat.pow_succ]; omega
  obtain ⟨m0, hm0⟩ : ∃ m0, m0 = if 0 < size / 2 ^ F then size % 2 ^ F + 2 ^ F else size := ⟨_, rfl⟩
  have hm0p : 0 < m0 ∧ m0 < 2 ^ (F + 1) := by
    rw [hm0]
    split
    · have := Nat.mod_lt size hp; omega
    · rename_i h0
      have : size < 2 ^ F := (Nat.div_eq_zero_iff_lt hp).1 (Nat.eq_zero_of_not_pos h0)
      omega
  rw [← hm0] at hm he
  have h53 : 2 ^ (F + 1) ≤ 2 ^ 53 := Nat.pow_le_pow_right (by decide) (by omega)
  have h64 : m0 < 2 ^ 64 := by
    have : (2 : Nat) ^ 53 < 2 ^ 64 := by decide
    omega
  obtain ⟨j, hj, _⟩ := ctz_spec hm0p.1 h64
  obtain ⟨t, ht⟩ : ∃ t, t = Lib.ctz 64 m0 := ⟨_, rfl⟩
  rw [← ht] at hj hm he
  have hmj : m = 2 * j + 1 := by rw [← hm, hj]; exact Nat.mul_div_cancel_left _ (Nat.two_pow_pos t)
  have hbt : bitsN m + t ≤ F + 1 := by
    have hb := (pow_bits (m := m) (by omega)).1
    have hb0 : 1 ≤ bitsN m := by
      rcases Nat.eq_zero_or_pos (bitsN m) with h | h
      · have := bitsN_lt m; rw [h] at this; omega
      · exact h
    have h3 : 2 ^ (bitsN m - 1) * 2 ^ t ≤ m0 := by rw [hj, ← hmj, Nat.mul_comm]; exact Nat.mul_le_mul_left _ hb
    rw [← Nat.pow_add] at h3
    have h4 : 2 ^ (bitsN m - 1 + t) < 2 ^ (F + 1) := Nat.lt_of_le_of_lt h3 hm0p.2
    have h5 := (Nat.pow_lt_pow_iff_right (a := 2) (by decide)).1 h4
    omega
  have h6 : size < 2 ^ F * (2 ^ X - 1) := by rw [Nat.mul_sub, ← Nat.pow_add, Nat.mul_one]; omega
  have h7 : size / 2 ^ F < 2 ^ X - 1 := (Nat.div_lt_iff_lt_mul hp).2 (by rw [Nat.mul_comm]; exact h6)
  have hX1 : 1 ≤ 2 ^ X := Nat.two_pow_pos X
  generalize size / 2 ^ F = q at he h7
  generalize 2 ^ X = b at *
  refine ⟨j, hmj, h1, h2, ?_⟩
  split at he <;> omega
/-- may the pattern be a float's? -/
def floatB (b : Nat) : Bool := if classN 52 11 b = 5 then decide (b = 9221120237041090560) else if classN 52 11 b = 4 then true else (intN 52 (-1074) 11 b).isNone
theorem class_of_parts {b : Nat} {y : Bool × Nat × Int} (h : partsN 52 (-1074) 11 b = some y) : classN 52 11 b ≠ 5 ∧ classN 52 11 b ≠ 4 := by
  unfold partsN at h
  simp only at h
  split at h
  · cases h
  · rename_i h1
    unfold classN
    rw [if_neg (by omega), if_neg (by omega)]
    constructor <;> (split <;> (try split) <;> decide)
theorem to64_float {F X x : Nat} {L : Int} (hF : F ≤ 52) (hL : -1074 ≤ L) (hX : 2 ^ X ≤ 2048) (hL0 : L ≤ 0) (hE : L + ((2 ^ X : Nat) : Int) ≤ 1000) (hFX : (F : Int) + 1 + L + ((2 ^ X : Nat) : Int) - 3 ≤ 1024) (hi : intN F L X x = none) : floatB (to64N F L X x) = true := by
  unfold intN at hi
  unfold to64N
  cases hp : partsN F L X x with
  | none =>
    dsimp only
    split
    · cases decide (2 ^ (F + X) ≤ x) <;> decide
    · decide
  | some y =>
    obtain ⟨neg, m, e⟩ := y
    rw [hp] at hi
    dsimp only at hi ⊢
    split at hi
    · rename_i he
      rcases parts_odd hF hL hX hL0 hE hFX hp with ⟨-, h0⟩ | ⟨j, rfl, h1, h2, h3⟩
      · omega
      · obtain ⟨h4, -⟩ := parts_exact neg j e h1 h2 h3
        obtain ⟨h5, h6⟩ := class_of_parts h4
        unfold floatB
        rw [if_neg h5, if_neg h6]
        unfold intN
        rw [h4]
        simp [he]
    · cases hi

/-! ### texts -/
/-- encodings one behind the other -/
def goodF : Nat → List Nat → Bool
  | _, [] => true
  | 0, _ => false
  | m + 1, l => match utfK l with
    | some k => goodF m (l.drop k)
    | none => false
def goodT (s : ByteArray) : Bool := goodF s.size (bl s)
theorem utfK_mk1 {c : Nat} {r : List Nat} (h : c < 0x80) : utfK (c :: r) = some 1 := by
  unfold utfK utfN
  simp [h]
/-- an encoding of k bytes is told by them -/
theorem utfK_cut {l l2 : List Nat} {k : Nat} (h : utfK (l ++ l2) = some k) (hk : k ≤ l.length) : utfK l = some k := by
  obtain ⟨c, r, e, g⟩ := utfK_cases h
  match l, hk, e with
  | [], hk, _ => rcases g with ⟨rfl, _⟩ | ⟨rfl, _⟩ | ⟨rfl, _⟩ | ⟨rfl, _⟩ <;> simp at hk
  | [a], hk, e =>
    simp only [List.cons_append, List.nil_append, List.cons.injEq] at e
    obtain ⟨rfl, rfl⟩ := e
    rcases g with ⟨rfl, g⟩ | ⟨rfl, _⟩ | ⟨rfl, _⟩ | ⟨rfl, _⟩
    · exact utfK_mk1 g
    all_goals simp at hk
  | [a, a1], hk, e =>
    simp only [List.cons_append, List.nil_append, List.cons.injEq] at e
    obtain ⟨rfl, rfl⟩ := e
    rcases g with ⟨rfl, g⟩ | ⟨rfl, g1, b1, r1, e1, g2, g3⟩ | ⟨rfl, _⟩ | ⟨rfl, _⟩
    · exact utfK_mk1 g
    · simp only [List.cons.injEq] at e1
      obtain ⟨rfl, rfl⟩ := e1
      exact utfK_mk2 g1 g2 g3
    all_goals simp at hk
  | [a, a1, a2], hk, e =>
    simp only [List.cons_append, List.nil_append, List.cons.injEq] at e
    obtain ⟨rfl, rfl⟩ := e
    rcases g with ⟨rfl, g⟩ | ⟨rfl, g1, b1, r1, e1, g2, g3⟩ | ⟨rfl, g1, b1, b2, r1, e1, g2, g3, g4, g5⟩ | ⟨rfl, _⟩
    · exact utfK_mk1 g
    · simp only [List.cons.injEq] at e1
      obtain ⟨rfl, rfl⟩ := e1
      exact utfK_mk2 g1 g2 g3
    · simp only [List.cons.injEq] at e1
      obtain ⟨rfl, rfl, rfl⟩ := e1
      exact utfK_mk3 g1 g2 g3 g4 g5
    · simp at hk
  | a :: a1 :: a2 :: a3 :: l, hk, e =>
    simp only [List.cons_append, List.cons.injEq] at e
    obtain ⟨rfl, rfl⟩ := e
    rcases g with ⟨rfl, g⟩ | ⟨rfl, g1, b1, r1, e1, g2, g3⟩ | ⟨rfl, g1, b1, b2, r1, e1, g2, g3, g4, g5⟩ | ⟨rfl, g1, b1, b2, b3, r1, e1, g2, g3, g4, g5, g6⟩
    · exact utfK_mk1 g
    · simp only [List.cons.injEq] at e1
      obtain ⟨rfl, rfl⟩ := e1
      exact utfK_mk2 g1 g2 g3
    · simp only [List.cons.injEq] at e1
      obtain ⟨rfl, rfl, rfl⟩ := e1
      exact utfK_mk3 g1 g2 g3 g4 g5
    · simp only [List.cons.injEq] at e1
      obtain ⟨rfl, rfl, rfl, rfl⟩ := e1
      exact utfK_mk4 g1 g2 g3 g4 g5 g6
theorem within_none : ∀ (m i : Nat) (l : List Nat) (k : Nat), withinN l k m i = none → ∀ j, i ≤ j → j < i + m → j < k → j < l.length → goodN (l.take (j + 1)) k = true
  | 0, i, _, _, _, j, h1, h2, _, _ => by omega
  | m + 1, i, l, k, h, j, h1, h2, h3, h4 => by
    simp only [withinN] at h
    rw [if_pos ⟨by omega, by omega⟩] at h
    split at h
    · rename_i hg
      rcases Nat.lt_or_ge i j with h5 | h5
      · exact within_none m (i + 1) l k h j (by omega) (by omega) h3 h4
      · obtain rfl : i = j := by omega
        exact hg
    · cases h
theorem leadK_le {b k : Nat} (h : leadK b = some k) : k ≤ 4 ∧ (k = 1 → b < 0x80) ∧ 1 ≤ k := by
  unfold leadK at h
  split at h
  · simp only [Option.some.injEq] at h; omega
  · split at h
    · simp only [Option.some.injEq] at h; omega
    · split at h
      · simp only [Option.some.injEq] at h; omega
      · split at h
        · simp only [Option.some.injEq] at h; omega
        · cases h
theorem first_room {l : List Nat} {n : Nat} (hl : l ≠ []) (hn : l.length = n) (hk : utfK l = none) : firstN l n ≠ none := by
  intro hf
  match l, hl with
  | b :: l, _ =>
    unfold firstN at hf
    dsimp only at hf
    cases hb : leadK b with
    | none => rw [hb] at hf; cases hf
    | some k =>
      rw [hb] at hf
      dsimp only at hf
      obtain ⟨h4, h1, h0⟩ := leadK_le hb
      split at hf
      · cases hf
      rename_i hnk
      rcases Nat.lt_or_ge 1 k with h2 | h2
      · have hg := within_none 4 1 (b :: l) k hf (k - 1) (by omega) (by omega) (by omega) (by omega)
        rw [show k - 1 + 1 = k by omega] at hg
        have hlen : ((b :: l).take k).length = k := by rw [List.length_take]; omega
        have hT : utfK ((b :: l).take k) = some k := by
          unfold goodN at hg
          simp only [Bool.or_eq_true, beq_iff_eq] at hg
          rcases hg with (hg | hg) | hg
          · exact hg
          · exact utfK_cut hg (by omega)
          · exact utfK_cut hg (by omega)
        have := utfK_app ((b :: l).drop k) hT
        rw [List.take_append_drop, hk] at this
        cases this
      · have := utfK_mk1 (r := l) (h1 (by omega))
        rw [hk] at this
        cases this
theorem good_of_scan : ∀ (m : Nat) (l : List Nat) (n : Nat), l.length ≤ m → l.length = n → scanN m l n = none → goodF m l = true
  | 0, l, _, h, _, _ => by
    have : l = [] := List.length_eq_zero_iff.1 (by omega)
    subst this
    rfl
  | m + 1, [], _, _, _, _ => rfl
  | m + 1, a :: l, n, h, hn, hs => by
    simp only [scanN] at hs
    cases hk : utfK (a :: l) with
    | some k =>
      rw [hk] at hs
      obtain ⟨h1, h2, _⟩ := utfK_pos hk
      simp only [goodF, hk]
      refine good_of_scan m _ (n - k) (by rw [List.length_drop]; omega) (by rw [List.length_drop]; omega) ?_
      simpa using hs
    | none =>
      rw [hk] at hs
      exact absurd hs (first_room (by simp) hn hk)
end Go.Proofs.YtiemkfibpfndaaaGreatDoor

/- A long document: a head of five bytes and so many bytes behind it. Plain Lean. -/
namespace Go.Proofs.YtiemkfibpfndaaaGreatDoor

theorem wide_sizeZ (f n x : Nat) : (Bt (f :: beL n x)).size = n + 1 := by rw [Bt_size, List.length_cons, beL_len]
/-- noughts and one last byte -/
def lngL (j last : Nat) : List Nat := List.replicate j 0 ++ [last]
theorem lngL_len (j last : Nat) : (lngL j last).length = j + 1 := by simp [lngL]
theorem lngL_8 {j last : Nat} (h : last < 256) : B8 (lngL j last) := fun x hx => by
  unfold lngL at hx
  rw [List.mem_append, List.mem_replicate, List.mem_singleton] at hx
  rcases hx with ⟨_, rfl⟩ | rfl
  · decide
  · exact h
theorem lngL_succ (j last : Nat) : lngL (j + 1) last = 0 :: lngL j last := rfl
theorem lngL_get (j last i : Nat) (h : i < j) : (lngL j last).getD i 0 = 0 := by
  unfold lngL
  rw [List.getD_eq_getElem?_getD, List.getElem?_append_left (by simpa using h), List.getElem?_replicate, if_pos h, Option.getD_some]
theorem lngL_last (j last : Nat) : (lngL j last).getD j 0 = last := by
  unfold lngL
  rw [List.getD_eq_getElem?_getD, List.getElem?_append_right (by simp)]
  simp
theorem utfK_high {b : Nat} (h : 128 ≤ b) : utfK [b] = none := by
  unfold utfK utfN
  dsimp only
  rw [if_neg (by omega)]
  split
  · rfl
  · split
    · rfl
    · split <;> rfl
theorem first_high {b : Nat} (h : 128 ≤ b) : firstN [b] 1 = some 0 := by
  unfold firstN
  dsimp only
  cases hb : leadK b with
  | none => rfl
  | some k =>
    dsimp only
    obtain ⟨-, h1, h0⟩ := leadK_le hb
    rw [if_pos]
    rcases Nat.lt_or_ge 1 k with h2 | h2
    · exact h2
    · have := h1 (by omega); omega
theorem scan_long (last : Nat) : ∀ j, scanN (j + 1) (lngL j last) (j + 1) = if last < 128 then none else some j
  | 0 => by
    unfold lngL
    simp only [List.replicate_zero, List.nil_append, scanN]
    by_cases h : last < 128
    · rw [utfK_mk1 (r := []) h, if_pos h]
      rfl
    · rw [utfK_high (by omega), if_neg h]
      dsimp only
      rw [first_high (by omega)]
  | j + 1 => by
    rw [lngL_succ, show scanN (j + 1 + 1) (0 :: lngL j last) (j + 1 + 1) = (match utfK (0 :: lngL j last) with | some k => (scanN (j + 1) ((0 :: lngL j last).drop k) (j + 1 + 1 - k)).map (· + k) | none => firstN (0 :: lngL j last) (j + 1 + 1)) from rfl]
    rw [utfK_mk1 (r := lngL j last) (by decide)]
    dsimp only
    rw [List.drop_one, List.tail_cons, show j + 1 + 1 - 1 = j + 1 by omega, scan_long last j]
    split <;> rfl
/-- the document -/
def lngD (f j last : Nat) : ByteArray := Bt (f :: beL 4 (j + 1)) ++ Bt (lngL j last)
theorem lngD_size (f j last : Nat) : (lngD f j last).size = j + 6 := by
  unfold lngD
  rw [ByteArray.size_append, wide_sizeZ, Bt_size, lngL_len]
  omega
/-- what an item at its beginning is -/
def lngR (text : Bool) (j last : Nat) : R V := if text then (if last < 128 then .ok (V.tex (Bt (lngL j last))) (j + 6) else .bad 3 (j + 5)) else .ok (V.byt (Bt (lngL j last))) (j + 6)
theorem long_item_b (j last : Nat) (hj : j + 1 < 4294967296) (inner : Option (Nat → R V)) : itemF Wd (lngD 198 j last) inner 0 = .ok (V.byt (Bt (lngL j last))) (j + 6) := by
  have hz : (Bt (lngL j last)).size = j + 1 := by rw [Bt_size, lngL_len]
  have h := head_wide Wd (f := 198) (w := 4) (x := j + 1) (n := 0) (fam := .bytes) (by decide) (by rfl) (by decide) hj (Bt (lngL j last)) inner
  have hb := bytes_rest (D := Wd) (Bt (198 :: beL 4 (j + 1))) (Bt (lngL j last)) inner 0
  rw [hz, wide_sizeZ] at hb
  have hs := lngD_size 198 j last
  unfold lngD at hs ⊢
  rw [hs] at hb
  exact h.trans hb
theorem long_item_t (j last : Nat) (hj : j + 1 < 4294967296) (hl : last < 256) (inner : Option (Nat → R V)) : itemF Wd (lngD 219 j last) inner 0 = if last < 128 then .ok (V.tex (Bt (lngL j last))) (j + 6) else .bad 3 (j + 5) := by
  have hz : (Bt (lngL j last)).size = j + 1 := by rw [Bt_size, lngL_len]
  have h := head_wide Wd (f := 219) (w := 4) (x := j + 1) (n := 0) (fam := .text) (by decide) (by rfl) (by decide) hj (Bt (lngL j last)) inner
  have hb := text_rest (D := Wd) (Bt (219 :: beL 4 (j + 1))) (Bt (lngL j last)) inner 0
  rw [hz, wide_sizeZ, bl_Bt (lngL_8 hl), scan_long] at hb
  have hs := lngD_size 219 j last
  unfold lngD at hs ⊢
  rw [hs] at hb
  refine h.trans (hb.trans ?_)
  by_cases hL : last < 128
  · rw [if_pos hL, if_pos hL]
  · rw [if_neg hL, if_neg hL]
    show R.bad 3 (4 + 1 + j) = R.bad 3 (j + 5)
    rw [show 4 + 1 + j = j + 5 by omega]
theorem long_item (text : Bool) (j last : Nat) (hj : j + 1 < 4294967296) (hl : last < 256) (inner : Option (Nat → R V)) : itemF Wd (lngD (if text then 219 else 198) j last) inner 0 = lngR text j last := by
  cases text with
  | false => exact long_item_b j last hj inner
  | true => exact long_item_t j last hj hl inner
theorem long_next (text : Bool) (j last : Nat) (hj : j + 1 < 4294967296) (hl : last < 256) : itemN Wd (lngD (if text then 219 else 198) j last) 128 0 = lngR text j last := long_item text j last hj hl _
theorem long_read (text : Bool) (j last : Nat) (hj : j + 1 < 4294967296) (hl : last < 256) : readN Wd (lngD (if text then 219 else 198) j last) = lngR text j last := by
  unfold readN
  rw [long_next text j last hj hl]
  unfold lngR
  cases text with
  | false =>
    rw [if_neg (by decide)]
    simp only [R.bind]
    rw [if_neg (by rw [lngD_size]; omega)]
  | true =>
    rw [if_pos rfl]
    split
    · simp only [R.bind]
      rw [if_neg (by rw [lngD_size]; omega)]
    · rfl
/-! ### its bytes, stored one by one -/
theorem rep_set (last : Nat) : ∀ j, (List.replicate (j + 1) 0).set j last = lngL j last
  | 0 => rfl
  | j + 1 => by
    rw [lngL_succ, ← rep_set last j]
    rfl
theorem long_stores (f b3 b2 b1 b0 last j : Nat) : ((((((List.replicate (j + 6) 0).set 0 f).set 1 b3).set 2 b2).set 3 b1).set 4 b0).set (j + 5) last = f :: b3 :: b2 :: b1 :: b0 :: lngL j last := by
  rw [← rep_set]
  rfl
theorem long_bytes (f j last : Nat) : Bt (f :: (j + 1) / 16777216 % 256 :: (j + 1) / 65536 % 256 :: (j + 1) / 256 % 256 :: (j + 1) % 256 :: lngL j last) = lngD f j last := by
  unfold lngD
  rw [← Bt_app]
  simp [beL]
/-- nothing stands at the end -/
theorem end_item (s : ByteArray) (n : Nat) : itemN Wd s n s.size = .bad 3 s.size := by
  rw [itemN_inD]
  unfold itemF takeR
  rw [if_pos (by omega)]
  rfl
end Go.Proofs.YtiemkfibpfndaaaGreatDoor

/- The reference's look at a text: of noughts and one last byte. Printed by mkze. -/
namespace Go.Proofs.YtiemkfibpfndaaaGreatDoor
open Go.RowKit

/-- how many bytes an encoding has that begins with the byte -/
def needN (c : Nat) : Nat := if c < 128 then 1 else if c < 194 then 0 else if c < 224 then 2 else if c < 240 then 3 else if c < 245 then 4 else 0
theorem needN_high {c : Nat} (h : 128 ≤ c) : needN c = 0 ∨ 2 ≤ needN c := by
  unfold needN
  rw [if_neg (by omega)]
  split
  · exact .inl rfl
  · split
    · exact .inr (by decide)
    · split
      · exact .inr (by decide)
      · split
        · exact .inr (by decide)
        · exact .inl rfl
theorem need_0 (c : Nat) (h1 : 0 ≤ c) (h2 : c < 128) (w : World) : Calls Tryz.prog 78 #[.int .u8 (c : Int)] w fun e w' => e = .returned (.int .i64 1) ∧ w' = w := by
  have d0 : decide ((c : Int) < 128) = true := by rw [decide_eq_true_iff]; omega
  have d1 : decide ((c : Int) ≥ 194) = false := by rw [decide_eq_false_iff_not]; omega
  have d2 : decide ((c : Int) < 224) = true := by rw [decide_eq_true_iff]; omega
  have d3 : decide ((c : Int) ≥ 224) = false := by rw [decide_eq_false_iff_not]; omega
  have d4 : decide ((c : Int) < 240) = true := by rw [decide_eq_true_iff]; omega
  have d5 : decide ((c : Int) ≥ 240) = false := by rw [decide_eq_false_iff_not]; omega
  have d6 : decide ((c : Int) < 245) = true := by rw [decide_eq_true_iff]; omega
  clear h1 h2
  go_enter Tryz.func78, Tryz.ntmps78
  go_wp2
  go_ret
  exact ⟨rfl, rfl⟩
theorem need_128 (c : Nat) (h1 : 128 ≤ c) (h2 : c < 194) (w : World) : Calls Tryz.prog 78 #[.int .u8 (c : Int)] w fun e w' => e = .returned (.int .i64 0) ∧ w' = w := by
  have d0 : decide ((c : Int) < 128) = false := by rw [decide_eq_false_iff_not]; omega
  have d1 : decide ((c : Int) ≥ 194) = false := by rw [decide_eq_false_iff_not]; omega
  have d2 : decide ((c : Int) < 224) = true := by rw [decide_eq_true_iff]; omega
  have d3 : decide ((c : Int) ≥ 224) = false := by rw [decide_eq_false_iff_not]; omega
  have d4 : decide ((c : Int) < 240) = true := by rw [decide_eq_true_iff]; omega
  have d5 : decide ((c : Int) ≥ 240) = false := by rw [decide_eq_false_iff_not]; omega
  have d6 : decide ((c : Int) < 245) = true := by rw [decide_eq_true_iff]; omega
  clear h1 h2
  go_enter Tryz.func78, Tryz.ntmps78
  go_wp2
  go_ret
  exact ⟨rfl, rfl⟩
theorem need_194 (c : Nat) (h1 : 194 ≤ c) (h2 : c < 224) (w : World) : Calls Tryz.prog 78 #[.int .u8 (c : Int)] w fun e w' => e = .returned (.int .i64 2) ∧ w' = w := by
  have d0 : decide ((c : Int) < 128) = false := by rw [decide_eq_false_iff_not]; omega
  have d1 : decide ((c : Int) ≥ 194) = true := by rw [decide_eq_true_iff]; omega
  have d2 : decide ((c : Int) < 224) = true := by rw [decide_eq_true_iff]; omega
  have d3 : decide ((c : Int) ≥ 224) = false := by rw [decide_eq_false_iff_not]; omega
  have d4 : decide ((c : Int) < 240) = true := by rw [decide_eq_true_iff]; omega
  have d5 : decide ((c : Int) ≥ 240) = false := by rw [decide_eq_false_iff_not]; omega
  have d6 : decide ((c : Int) < 245) = true := by rw [decide_eq_true_iff]; omega
  clear h1 h2
  go_enter Tryz.func78, Tryz.ntmps78
  go_wp2
  go_ret
  exact ⟨rfl, rfl⟩
theorem need_224 (c : Nat) (h1 : 224 ≤ c) (h2 : c < 240) (w : World) : Calls Tryz.prog 78 #[.int .u8 (c : Int)] w fun e w' => e = .returned (.int .i64 3) ∧ w' = w := by
  have d0 : decide ((c : Int) < 128) = false := by rw [decide_eq_false_iff_not]; omega
  have d1 : decide ((c : Int) ≥ 194) = true := by rw [decide_eq_true_iff]; omega
  have d2 : decide ((c : Int) < 224) = false := by rw [decide_eq_false_iff_not]; omega
  have d3 : decide ((c : Int) ≥ 224) = true := by rw [decide_eq_true_iff]; omega
  have d4 : decide ((c : Int) < 240) = true := by rw [decide_eq_true_iff]; omega
  have d5 : decide ((c : Int) ≥ 240) = false := by rw [decide_eq_false_iff_not]; omega
  have d6 : decide ((c : Int) < 245) = true := by rw [decide_eq_true_iff]; omega
  clear h1 h2
  go_enter Tryz.func78, Tryz.ntmps78
  go_wp2
  go_ret
  exact ⟨rfl, rfl⟩
theorem need_240 (c : Nat) (h1 : 240 ≤ c) (h2 : c < 245) (w : World) : Calls Tryz.prog 78 #[.int .u8 (c : Int)] w fun e w' => e = .returned (.int .i64 4) ∧ w' = w := by
  have d0 : decide ((c : Int) < 128) = false := by rw [decide_eq_false_iff_not]; omega
  have d1 : decide ((c : Int) ≥ 194) = true := by rw [decide_eq_true_iff]; omega
  have d2 : decide ((c : Int) < 224) = false := by rw [decide_eq_false_iff_not]; omega
  have d3 : decide ((c : Int) ≥ 224) = true := by rw [decide_eq_true_iff]; omega
  have d4 : decide ((c : Int) < 240) = false := by rw [decide_eq_false_iff_not]; omega
  have d5 : decide ((c : Int) ≥ 240) = true := by rw [decide_eq_true_iff]; omega
  have d6 : decide ((c : Int) < 245) = true := by rw [decide_eq_true_iff]; omega
  clear h1 h2
  go_enter Tryz.func78, Tryz.ntmps78
  go_wp2
  go_ret
  exact ⟨rfl, rfl⟩
theorem need_245 (c : Nat) (h1 : 245 ≤ c) (h2 : c < 256) (w : World) : Calls Tryz.prog 78 #[.int .u8 (c : Int)] w fun e w' => e = .returned (.int .i64 0) ∧ w' = w := by
  have d0 : decide ((c : Int) < 128) = false := by rw [decide_eq_false_iff_not]; omega
  have d1 : decide ((c : Int) ≥ 194) = true := by rw [decide_eq_true_iff]; omega
  have d2 : decide ((c : Int) < 224) = false := by rw [decide_eq_false_iff_not]; omega
  have d3 : decide ((c : Int) ≥ 224) = true := by rw [decide_eq_true_iff]; omega
  have d4 : decide ((c : Int) < 240) = false := by rw [decide_eq_false_iff_not]; omega
  have d5 : decide ((c : Int) ≥ 240) = true := by rw [decide_eq_true_iff]; omega
  have d6 : decide ((c : Int) < 245) = false := by rw [decide_eq_false_iff_not]; omega
  clear h1 h2
  go_enter Tryz.func78, Tryz.ntmps78
  go_wp2
  go_ret
  exact ⟨rfl, rfl⟩
theorem rneed_ok (c : Nat) (hc : c < 256) (w : World) : Calls Tryz.prog 78 #[.int .u8 (c : Int)] w fun e w' => e = .returned (.int .i64 ((needN c : Nat) : Int)) ∧ w' = w := by
  unfold needN
  by_cases h0 : c < 128
  · rw [if_pos h0]; exact need_0 c (by omega) h0 w
  rw [if_neg h0]
  by_cases h1 : c < 194
  · rw [if_pos h1]; exact need_128 c (by omega) h1 w
  rw [if_neg h1]
  by_cases h2 : c < 224
  · rw [if_pos h2]; exact need_194 c (by omega) h2 w
  rw [if_neg h2]
  by_cases h3 : c < 240
  · rw [if_pos h3]; exact need_224 c (by omega) h3 w
  rw [if_neg h3]
  by_cases h4 : c < 245
  · rw [if_pos h4]; exact need_240 c (by omega) h4 w
  rw [if_neg h4]
  exact need_245 c (by omega) hc w
set_option maxRecDepth 100000 in
theorem rgood_ok (j last : Nat) (hj : j < 4294967296) (hl : last < 256) (w : World) : Calls Tryz.prog 52 #[.string (Bt (lngL j last)), .int .u64 ((j + 1 : Nat) : Int)] w fun e w' => e = (if last < 128 then .returned (.tuple #[.int .i64 0, .bool true]) else .returned (.tuple #[.int .i64 (j : Int), .bool false])) ∧ w' = w := by
  obtain ⟨m, HM⟩ : ∃ m, Hid (j + 1 = m) := ⟨_, Lib.hid rfl⟩
  have hm := HM.out
  obtain ⟨t, HT⟩ : ∃ t, Hid (Bt (lngL j last) = t) := ⟨_, Lib.hid rfl⟩
  have hts : t.size = m := by rw [← HT.out, Bt_size, lngL_len]; exact hm
  have hbl : bl t = lngL j last := by rw [← HT.out, bl_Bt (lngL_8 hl)]
  have hget : ∀ i (h : i < t.size), (t[i]'h).toNat = (lngL j last).getD i 0 := fun i h => by
    have h1 := bl_at t i h
    rw [hbl] at h1
    rw [List.getD_eq_getElem?_getD, h1]
    rfl
  have HG := Lib.hid hget
  have HN := Lib.hid (fun (c : Nat) (hc : c < 256) (W : World) => rneed_ok c hc W)
  rw [hm, HT.out]
  obtain ⟨E, HE⟩ : ∃ E, Hid ((if last < 128 then Ending.returned (.tuple #[.int .i64 0, .bool true]) else .returned (.tuple #[.int .i64 (j : Int), .bool false])) = E) := ⟨_, Lib.hid rfl⟩
  rw [HE.out]
  clear hbl hget
  go_enter Tryz.func52, Tryz.ntmps52
  go_wp2_with (fail)
  go_loopw [6, 7, 8] (fun u6 u7 u8 wr => ∃ i : Nat, i ≤ m ∧ u6 = .int .i64 (i : Int) ∧ Hid (j < i → last < 128) ∧ wr = w) (fun u6 _ _ _ => m - (intOf u6).toNat)
  case atStart => exact ⟨0, Nat.zero_le _, rfl, Lib.hid (fun h => by omega), rfl⟩
  case round =>
    obtain ⟨i, hi, rfl, HI, rfl⟩ := hrel
    rcases Nat.lt_or_ge i m with hlt | hge
    · have hlt2 : decide ((i : Int) < (m : Int)) = true := by rw [decide_eq_true_iff]; omega
      have hlt3 : i < t.size := by omega
      obtain ⟨y, HY⟩ : ∃ y, Hid ((t[i]'hlt3).toNat = y) := ⟨_, Lib.hid rfl⟩
      have hy := HY.out
      have hy8 : y < 256 := by rw [← hy]; exact UInt8.toNat_lt _
      have hgy := HG.out i hlt3
      rw [hy] at hgy
      have HNY := Lib.hid (HN.out y hy8)
      obtain ⟨k, HK⟩ : ∃ k, Hid (needN y = k) := ⟨_, Lib.hid rfl⟩
      rw [HK.out] at HNY
      by_cases hy1 : y < 128
      · have hk1 : k = 1 := by rw [← HK.out]; unfold needN; rw [if_pos hy1]
        obtain ⟨i1, HI1⟩ : ∃ i1, Hid (i + 1 = i1) := ⟨_, Lib.hid rfl⟩
        have hi1 := HI1.out
        have e1 : ((k : Int) == 0) = false := by rw [beq_eq_false_iff_ne]; omega
        have e2' : (i : Int) + (k : Int) = (i1 : Int) := by omega
        have e2 : IntKind.i64.wrap (i1 : Int) = (i1 : Int) := by rw [IntWalk.i64_left, IntWalk.wrap64_in _ ⟨by omega, by omega⟩]
        have e3 : IntKind.u64.wrap (i1 : Int) = (i1 : Int) := by rw [IntKind.wrap_u64]; omega
        have e4 : decide ((i1 : Int) > (m : Int)) = false := by rw [decide_eq_false_iff_not]; omega
        have e5 : decide ((2 : Int) ≤ (k : Int)) = false := by rw [decide_eq_false_iff_not]; omega
        have e6 : decide (m < i1) = false := by rw [decide_eq_false_iff_not]; omega
        have e7 : decide (2 ≤ k) = false := by rw [decide_eq_false_iff_not]; omega
        have e8 : ¬ m < i1 := by omega
        have e9 : ¬ 2 ≤ k := by omega
        have HL1 : Hid (j < i1 → last < 128) := Lib.hid (fun h => by
          have h1 : i = j := by omega
          rw [h1, lngL_last] at hgy
          omega)
        have HI1m : Hid (i1 ≤ m ∧ m - i1 < m - i) := Lib.hid (by omega)
        clear hk1 hi1 hgy hi
        go_wp2_with (go_at_call 78; go_must (refine (HNY.out _).mono ?_); rintro e w1 ⟨rfl, rfl⟩)
        refine wp_loop_rounds 1 ?_
        rw [rounds_succ]
        go_wp2
        exact ⟨⟨i1, HI1m.out.1, rfl, HL1, trivial⟩, by simp [intOf]; exact HI1m.out.2⟩
      · have hij : i = j := by
          rcases Nat.lt_or_ge i j with h1 | h1
          · rw [lngL_get j last i h1] at hgy; omega
          · omega
        subst hij
        rw [lngL_last] at hgy
        have hl1 : ¬ last < 128 := by omega
        have HL1 := Lib.hid hl1
        have hkk := needN_high (c := y) (by omega)
        rw [HK.out] at hkk
        rcases Nat.eq_zero_or_pos k with hk0 | hk0
        · subst hk0
          clear hkk hgy
          go_wp2_with (go_at_call 78; go_must (refine (HNY.out _).mono ?_); rintro e w1 ⟨rfl, rfl⟩)
          go_ret2
          exact ⟨(if_neg HL1.out).symm.trans HE.out, rfl⟩
        · have e1 : ((k : Int) == 0) = false := by rw [beq_eq_false_iff_ne]; omega
          obtain ⟨i1, HI1⟩ : ∃ i1, Hid (i + k = i1) := ⟨_, Lib.hid rfl⟩
          have hi1 := HI1.out
          have hk4 : k ≤ 4 := by rw [← HK.out]; unfold needN; (repeat' split) <;> omega
          have e2' : (i : Int) + (k : Int) = (i1 : Int) := by omega
          have e2 : IntKind.i64.wrap (i1 : Int) = (i1 : Int) := by rw [IntWalk.i64_left, IntWalk.wrap64_in _ ⟨by omega, by omega⟩]
          have e3 : IntKind.u64.wrap (i1 : Int) = (i1 : Int) := by rw [IntKind.wrap_u64]; omega
          have e4 : decide ((i1 : Int) > (m : Int)) = true := by rw [decide_eq_true_iff]; omega
          have e6 : m < i1 := by omega
          clear hi1 hgy hkk hi
          go_wp2_with (go_at_call 78; go_must (refine (HNY.out _).mono ?_); rintro e w1 ⟨rfl, rfl⟩)
          go_ret2
          exact ⟨(if_neg HL1.out).symm.trans HE.out, rfl⟩
    · obtain rfl : i = m := by omega
      have hlt2 : decide ((i : Int) < (i : Int)) = false := by rw [decide_eq_false_iff_not]; omega
      have hl1 := HI.out (by omega)
      go_wp2
      go_ret2
      exact ⟨(if_pos hl1).symm.trans HE.out, rfl⟩
end Go.Proofs.YtiemkfibpfndaaaGreatDoor

/- What is pulled of a long document. Plain Lean. -/
namespace Go.Proofs.YtiemkfibpfndaaaGreatDoor

theorem mid_take (h m r : ByteArray) : takeR (h ++ (m ++ r)) h.size m.size = .ok m (h.size + m.size) := by
  have S1 : Shift m (h ++ (m ++ r)) h.size := by rw [← ByteArray.append_assoc]; exact Shift.mk' h m r
  have e1 := (take_shift S1 (Nat.zero_le _) (take_all m)).1
  rwa [Nat.add_zero] at e1
theorem lngD_eq (f j last : Nat) : lngD f j last = Bt [f] ++ (Bt (beL 4 (j + 1)) ++ Bt (lngL j last)) := by
  unfold lngD
  rw [← Bt_app, ← Bt_app, ← Bt_app]
  rfl
theorem lng_take1 (f j last : Nat) : takeR (lngD f j last) 0 1 = .ok (Bt [f]) 1 := by
  rw [lngD_eq]
  have e1 := (take_shift (Shift.first (Bt [f]) (Bt (beL 4 (j + 1)) ++ Bt (lngL j last))) (Nat.zero_le _) (take_all (Bt [f]))).1
  simpa only [Nat.zero_add, Bt_size, List.length_singleton] using e1
theorem lng_take2 (f j last : Nat) : takeR (lngD f j last) 1 4 = .ok (Bt (beL 4 (j + 1))) 5 := by
  rw [lngD_eq]
  have e1 := mid_take (Bt [f]) (Bt (beL 4 (j + 1))) (Bt (lngL j last))
  rwa [Bt_size, Bt_size, List.length_singleton, beL_len] at e1
theorem lng_take3 (f j last : Nat) : takeR (lngD f j last) 5 (j + 1) = .ok (Bt (lngL j last)) (j + 6) := by
  have e1 := take_rest (Bt (f :: beL 4 (j + 1))) (Bt (lngL j last))
  rw [wide_sizeZ, Bt_size, lngL_len] at e1
  have hs := lngD_size f j last
  unfold lngD at hs ⊢
  rw [hs] at e1
  exact e1
theorem lng_rest (f j last : Nat) : (lngD f j last).extract 5 (j + 6) = Bt (lngL j last) := by
  have e1 := lng_take3 f j last
  unfold takeR at e1
  split at e1
  · cases e1
  · simp only [R.ok.injEq] at e1
    rw [show j + 6 = 5 + (j + 1) by omega]
    exact e1.1
theorem lng_one (f : Nat) (h : f < 256) : beN (bl (Bt [f])) = f := by
  rw [bl_Bt (B8.cons h (fun _ h => by simp at h))]
  simp [beN]
theorem lng_four (j : Nat) (h : j + 1 < 4294967296) : beN (bl (Bt (beL 4 (j + 1)))) = j + 1 := by
  rw [bl_Bt (beL_8 _ _), beN_be_lt (by simpa using h)]
end Go.Proofs.YtiemkfibpfndaaaGreatDoor
