/- typed.array: the elements of a typed array. Printed by mkti. -/
import Derived.Shelf.Strconv.Itoa3
import Derived.Shelf.LaysM
import Derived.Lib.ItoaLen
import Derived.ChangeMaps5
import Derived.ChangeSlices
import Derived.Test.YticnefkdkkjgcaaGreatDoorPa7
namespace Go.Proofs.YticnefkdkkjgcaaGreatDoor
open Go.RowKit

/-- a uint64 -/
def E64u : El Nat where
  sz := 1
  pos := by decide
  cells := fun x => [.int .u64 (x : Int)]
  len := fun _ => rfl
  one := fun x v h => by simp at h; subst h; rfl
  val := fun x => .int .u64 (x : Int)
theorem slu_cell {w : World} {b o c i x : Nat} {xs : List Nat} (h : Sl E64u w (some ⟨b, o, none⟩) c xs) (hi : i < xs.length) (hx : xs.getD i 0 = x) : w.cell? ⟨b, o + i, none⟩ = some (.int .u64 (x : Int)) := by
  obtain ⟨b1, o1, e1, hr⟩ := h.elem (i := i) hi
  simp only [Option.some.injEq, Addr.mk.injEq, and_true] at e1
  obtain ⟨rfl, rfl⟩ := e1
  have h1 := hr 0 _ rfl
  simp only [E64u, Nat.add_zero, Nat.mul_one] at h1
  rw [h1, show xs[i] = x by rw [← hx, List.getD_eq_getElem?_getD, List.getElem?_eq_getElem hi]; rfl]
theorem str_conv0 {w : World} {b o c n : Nat} {l : List Nat} (h : Sl EB w (some ⟨b, o, none⟩) c l) (hn : l.length = n) (hb : B8 l) : (convert 114 9 (.slice (some ⟨b, o, none⟩) n c)).run Tryz.prog w = .ok (.string (Bt l)) w := by
  have hlen : (l.map UInt8.ofNat).length = n := by simpa using hn
  subst hlen
  refine run_convert_bytes_back (P := Tryz.prog) w 114 9 5 ⟨b, o, none⟩ c (l.map UInt8.ofNat) Tryz.underlying114 Tryz.underlying5 Tryz.underlying9 (fun j hj => ?_)
  have hj' : j < l.length := by simpa using hj
  obtain ⟨b1, o1, e1, hx⟩ := h.elem (i := j) hj'
  simp only [Option.some.injEq, Addr.mk.injEq, and_true] at e1
  obtain ⟨rfl, rfl⟩ := e1
  have hx1 := hx 0 _ rfl
  have hv : l[j] < 256 := hb _ (List.getElem_mem hj')
  simp only [EB, Nat.add_zero, Nat.mul_one] at hx1
  rw [Addr.add_mid, hx1]
  simp [Nat.mod_eq_of_lt hv]
theorem take_get {l : List Nat} {i x : Nat} (h : i < l.length) (hx : l.getD i 0 = x) : l.take (i + 1) = l.take i ++ [x] := take_getD h hx
/-- what of the bytes stands when i elements and j bytes of the next are written -/
theorem enc_take (lit : Bool) (n : Nat) (l : List Nat) (i : Nat) (h : i < l.length) : encL lit n (l.take i) ++ (elL lit n (l.getD i 0)).take n = encL lit n (l.take (i + 1)) := by
  rw [take_getD h rfl, encL_app, elL_full, encL, encL, List.append_nil]
/-- a typed array's cells -/
theorem arr_tr {W : World} {D : Nat → Prop} {tag bk : Nat} {b : List Nat} (hs : Sl ER W (some ⟨bk, 0, none⟩) 1 [⟨6, 0, false, none, 0, 0, 0, 0, Bt b, none, 0, 0⟩]) (hD : D bk) : Tr W D ⟨9, tag, false, none, 0, 0, 0, 0, ⟨#[]⟩, some ⟨bk, 0, none⟩, 1, 1⟩ (arrV tag b) :=
  ⟨rfl, rfl, rfl, rfl, rfl, rfl, ⟨rfl, Sl.nil_ EU W none (Nat.zero_le _), fun h => absurd rfl h⟩, [⟨6, 0, false, none, 0, 0, 0, 0, Bt b, none, 0, 0⟩], rfl, hs, fun _ => ⟨_, rfl, hD⟩, Tr.flat _ _ _ _ _ _ _ _, trivial⟩
/-- what array answers -/
def ArrPost (w : World) (tag : Nat) (b : List Nat) : Ending → World → Prop := fun E w' => Keep nob w w' ∧ ∃ r, E = .returned (ER.val r) ∧ Tr w' (fun k => w.heap.size ≤ k) r (arrV tag b)

set_option maxRecDepth 100000 in
set_option maxHeartbeats 1000000 in
theorem array_lit (e e' n i0 m c : Nat) (l : List Nat) (A : Option Addr) (B : Nat) (sa : Nat → Addr) (w : World) (g : GL B sa w) (hm : l.length = m) (h : Sl E64u w A c l)
    (hsz : ∀ w, Calls Tryz.prog 68 #[.int .i8 (e : Int)] w fun E w' => E = .returned (.int .i64 (n : Int)) ∧ w = w') (hn : 0 < n) (hn8 : n ≤ 8) (hmm : m ≤ 1000000000)
    (hd : decide ((n : Int) > 1) = true) (hor : bits .or .i8 (e : Int) 64 = (e' : Int)) (hand : bits .and .i8 (e' : Int) 64 = 64) (hi : i0 < 23) (hk : kdL.getD i0 0 = e') (hne : ∀ j, j < i0 → kdL.getD j 0 ≠ e') :
    Calls Tryz.prog 36 #[.int .i8 (e : Int), .bool true, .slice A m c] w (ArrPost w (64 + i0) (encL true n l)) := by
  obtain ⟨w0, b4, HW0, HB4, HK0, HT0, HL0⟩ := start w
  have HG := Lib.hid g
  have HSZ := Lib.hid hsz
  have HIX := Lib.hid (fun (W : World) (hk' : Keep nob w0 W) => index_ok (e' : Int) i0 B sa W (g.keep (HK0.out.then_ hk') (fun _ h => h.elim)) hi (by rw [hk]) (fun j hj he => hne j hj (by omega)))
  have HLN := Lib.hid hm
  have HSL := Lib.hid (h.keep HK0.out (fun ⟨_, _, h⟩ => h))
  have hcap := h.cap
  have hle := h.le
  rw [hm] at hle
  have HNE := Lib.hid hn
  obtain ⟨q, HQ⟩ : ∃ q : Nat, Hid (n * m = q) := ⟨_, Lib.hid rfl⟩
  have hq8 : q ≤ 8000000000 := by rw [← HQ.out]; exact Nat.le_trans (Nat.mul_le_mul hn8 hmm) (by decide)
  have iq : IntKind.i64.wrap ((n : Int) * (m : Int)) = (q : Int) := by rw [← Int.natCast_mul, HQ.out, IntWalk.i64_left, IntWalk.wrap64_in _ ⟨by omega, by omega⟩]
  obtain ⟨tg, HTG⟩ : ∃ tg : Nat, Hid (64 + i0 = tg) := ⟨_, Lib.hid rfl⟩
  have it1 : IntKind.i64.wrap (64 + (i0 : Int)) = (tg : Int) := by rw [← HTG.out, IntWalk.i64_left, IntWalk.wrap64_in _ ⟨by omega, by omega⟩]; omega
  have it2 : IntKind.u64.wrap (tg : Int) = (tg : Int) := by rw [IntKind.wrap_u64, ← HTG.out]; omega
  obtain ⟨n1, HN1⟩ : ∃ n1 : Nat, Hid (n - 1 = n1) := ⟨_, Lib.hid rfl⟩
  have in1 : IntKind.i64.wrap ((n : Int) - 1) = (n1 : Int) := by rw [← HN1.out, IntWalk.i64_left, IntWalk.wrap64_in _ ⟨by omega, by omega⟩]; omega
  have HPOST : Hid (∀ E w', ArrPost w tg (encL true n l) E w' → ArrPost w (64 + i0) (encL true n l) E w') := Lib.hid (fun E w' h => by rw [HTG.out]; exact h)
  refine Calls.mono ?_ HPOST.out
  clear HPOST
  clear g hm h hsz hn hk hne
  have hor' := hor
  go_enter Tryz.func36, Tryz.ntmps36
  go_upto_region 1 with (fail)
  rw [HW0.out, HB4.out]
  go_wp2_with (first
    | (go_at_call 68; go_must (refine ((HSZ.out _).mono ?_)); rintro E w1 ⟨rfl, rfl⟩)
    | (at_make; refine wpList_make_E EB rfl _ _ 114 rfl 5 _ 1 Tryz.underlying114 infoByte 0 q _ _ rfl rfl rfl rfl (Nat.zero_le _) (by omega) (by omega) ?_; intro w1 HW1))
  go_loopw [8, 30] (fun u8 u30 wr => ∃ (i k cc bb oo : Nat), i ≤ m ∧ k ≤ 8000000000 ∧ u8 = .slice (some ⟨bb, oo, none⟩) k cc ∧ u30 = .int .i64 (i : Int) ∧ Hid (k = n * i) ∧ Hid (Ow EB wr (some ⟨bb, oo, none⟩) cc (encL true n (l.take i))) ∧ Hid (w0.heap.size ≤ bb) ∧ Hid (Keep nob w0 wr)) (fun _ u30 _ => m - (intOf u30).toNat)
  case atStart =>
    refine ⟨0, 0, q, w0.heap.size, 0, Nat.zero_le _, by omega, rfl, rfl, Lib.hid rfl, ?_, Lib.hid (Nat.le_refl _), ?_⟩
    · refine Lib.hid ?_
      rw [HW1.out]
      exact ow_made EB w0 _ _ 0 rfl 0 q (Nat.zero_le _) (by omega)
    · refine Lib.hid ?_
      rw [HW1.out]
      exact (Keep.refl _ _).alloc _
  case round =>
    obtain ⟨i, k, cc, bb, oo, hi', hk8, rfl, rfl, HK, HO, HBB, HKW⟩ := hrel
    rcases Nat.lt_or_ge i m with hlt | hge
    · obtain ⟨x, HX⟩ : ∃ x, Hid (l.getD i 0 = x) := ⟨_, Lib.hid rfl⟩
      have hln : l ≠ [] := fun e => by have := HLN.out; rw [e] at this; simp at this; omega
      obtain ⟨ba, oa, rfl, -⟩ := HSL.out.at_ hln
      have hcx := slu_cell (HSL.out.keep HKW.out (fun ⟨_, _, h⟩ => h)) (by rw [HLN.out]; exact hlt) HX.out
      have q0 : (0 : Int) ≤ (i : Int) := by omega
      have q1 : (i : Int) < (m : Int) := by omega
      have d1 : decide ((i : Int) < (m : Int)) = true := by rw [decide_eq_true_iff]; omega
      have j5 : IntKind.i64.wrap ((i : Int) + 1) = (i : Int) + 1 := by rw [IntWalk.i64_left, IntWalk.wrap64_in _ ⟨by omega, by omega⟩]
      have HKN : Hid (k + n = n * (i + 1) ∧ k + n ≤ q) := by
        refine Lib.hid ⟨by rw [HK.out, Nat.mul_succ], ?_⟩
        rw [HK.out, ← HQ.out, ← Nat.mul_succ]
        exact Nat.mul_le_mul_left n hlt
      clear hln
      go_wp2_with (fail)
      have HKW' := HKW
      clear hcx
      go_loopw [8, 35] (fun u8 u35 wr' => ∃ (j k' cc bb oo : Nat), j ≤ n ∧ k' ≤ 8000000008 ∧ u8 = .slice (some ⟨bb, oo, none⟩) k' cc ∧ u35 = .int .i64 (j : Int) ∧ Hid (k' = k + j) ∧ Hid (Ow EB wr' (some ⟨bb, oo, none⟩) cc (encL true n (l.take i) ++ (elL true n x).take j)) ∧ Hid (w0.heap.size ≤ bb) ∧ Hid (Keep nob w0 wr')) (fun _ u35 _ => n - (intOf u35).toNat)
      case atStart => exact ⟨0, k, cc, bb, oo, Nat.zero_le _, by omega, rfl, rfl, Lib.hid rfl, Lib.hid (by rw [List.take_zero, List.append_nil]; exact HO.out), HBB, HKW⟩
      case round =>
        obtain ⟨j, k', cc, bb, oo, hj', hkk8, rfl, rfl, HKJ, HO, HBB, HKW⟩ := hrel
        rcases Nat.lt_or_ge j n with hjl | hjg
        · obtain ⟨d, HD⟩ : ∃ d, Hid (n - 1 - j = d) := ⟨_, Lib.hid rfl⟩
          have hd8 : d ≤ 7 := by rw [← HD.out]; omega
          have hj8 : j ≤ 7 := by omega
          have in2 : IntKind.i64.wrap ((n1 : Int) - (j : Int)) = (d : Int) := by rw [← HD.out, ← HN1.out, IntWalk.i64_left, IntWalk.wrap64_in _ ⟨by omega, by omega⟩]; omega
          obtain ⟨s8, HS8⟩ : ∃ s8, Hid (8 * j = s8) := ⟨_, Lib.hid rfl⟩
          obtain ⟨xs, HXS⟩ : ∃ xs, Hid (x / 2 ^ s8 = xs) := ⟨_, Lib.hid rfl⟩
          obtain ⟨y, HY⟩ : ∃ y, Hid (xs % 256 = y) := ⟨_, Lib.hid rfl⟩
          have k1 : IntKind.i64.wrap (8 * (j : Int)) = (s8 : Int) := by have := HS8.out; rw [IntWalk.i64_left, IntWalk.wrap64_in _ ⟨by omega, by omega⟩]; omega
          have k2 : (x : Int) / 2 ^ s8 = (xs : Int) := by rw [← HXS.out, Int.natCast_ediv, Int.natCast_pow]; rfl
          have k3 : IntKind.u8.wrap (xs : Int) = (y : Int) := by rw [IntKind.wrap_u8, ← HY.out]; omega
          have k5 : (xs : Int) % 256 = (y : Int) := by rw [← HY.out]; omega
          have jm : min s8 64 = s8 := by have := HS8.out; omega
          have hs0 : decide ((s8 : Int) < 0) = false := by simp
          have p0 : (0 : Int) ≤ (j : Int) := by omega
          have p1 : (j : Int) < (n : Int) := by omega
          have d2 : decide ((j : Int) < (n : Int)) = true := by rw [decide_eq_true_iff]; omega
          have k6 : IntKind.i64.wrap ((j : Int) + 1) = (j : Int) + 1 := by rw [IntWalk.i64_left, IntWalk.wrap64_in _ ⟨by omega, by omega⟩]
          have HLL : Hid ((encL true n (l.take i) ++ (elL true n x).take j).length = k') := by
            refine Lib.hid ?_
            rw [List.length_append, encL_len, List.length_take, List.length_take, HLN.out, elL_len, HKJ.out, HK.out, Nat.min_eq_left (by omega), Nat.min_eq_left (by omega)]
          have hkq : k' + 1 ≤ 8000000000 := by have h1 := HKJ.out; have h2 := HKN.out.2; omega
          have HOw : Hid (Ow EB (wr.alloc (.cells #[.int .u8 (y : Int)] 5)) (some ⟨bb, oo, none⟩) cc (encL true n (l.take i) ++ (elL true n x).take j)) := Lib.hid (HO.out.keep ((Keep.refl nob wr).alloc _) (fun ⟨_, _, h⟩ => h))
          have HSB : Hid (Sl EB (wr.alloc (.cells #[.int .u8 (y : Int)] 5)) (some ⟨wr.heap.size, 0, none⟩) 1 [y]) := Lib.hid (Ow.new_ EB wr _ _ 1 [y] (Nat.le_refl _) (by decide) rfl (fun j v hj => by simpa [El.flat_cons, El.flat_nil, EB] using hj)).sl
          go_wp2_with (at_builtin; refine wpList_append_ow EB rfl _ _ 114 rfl 5 _ 1 Tryz.underlying114 infoByte rfl (some ⟨bb, oo, none⟩) k' cc rfl _ HLL.out HOw.out (some ⟨wr.heap.size, 0, none⟩) 1 1 rfl [y] rfl HSB.out (by omega) (by omega) ?_; intro A' c' w6 hap; have HAP := Lib.hid hap; clear hap; have hA' := HAP.out.ow.sl.at_ (by simp); obtain ⟨bb', oo', rfl, -⟩ := hA')
          have HK6 : Hid (Keep nob w0 w6) := by
            refine Lib.hid ?_
            have h1 := HKW.out.then_ ((Keep.refl nob wr).alloc (.cells #[.int .u8 (y : Int)] 5))
            refine h1.trans HAP.out.keep (fun z hz ⟨a, ha, hb⟩ => ?_)
            cases ha
            have h3 := HBB.out
            dsimp only at hb
            omega
          refine ⟨⟨j + 1, k' + 1, c', bb', oo', hjl, by omega, rfl, rfl, Lib.hid (by rw [HKJ.out]; rfl), Lib.hid ?_, Lib.hid ?_, HK6⟩, by simp [intOf]; omega⟩
          · have hy : x / 256 ^ shiftB true n j % 256 = y := by
              rw [← HY.out, ← HXS.out, ← HS8.out, Nat.pow_mul]
              rfl
            have h1 := HAP.out.ow
            rw [List.append_assoc] at h1
            rw [elL_round true n x j hjl, hy]
            exact h1
          · rcases HAP.out.lies _ rfl with ⟨a0, h1, h2⟩ | ⟨h1, _⟩
            · cases h1
              have := HBB.out
              dsimp only at h2
              omega
            · have h2 := HKW.out.size
              simp at h1
              omega
        · obtain rfl : j = n := by omega
          have d2 : decide ((j : Int) < (j : Int)) = false := by rw [decide_eq_false_iff_not]; omega
          have HO2 : Hid (Ow EB wr (some ⟨bb, oo, none⟩) cc (encL true j (l.take (i + 1)))) := by
            refine Lib.hid ?_
            rw [← enc_take true j l i (by rw [HLN.out]; exact hlt), HX.out]
            exact HO.out
          have hkq : k' ≤ 8000000000 := by have h1 := HKJ.out; have h2 := HKN.out.2; omega
          go_wp2_with (fail)
          exact ⟨⟨i + 1, k', cc, bb, oo, hlt, hkq, rfl, rfl, Lib.hid (by rw [HKJ.out, HKN.out.1]), HO2, HBB, HKW⟩, by simp [intOf]; omega⟩
    · obtain rfl : i = m := by omega
      have d1 : decide ((i : Int) < (i : Int)) = false := by rw [decide_eq_false_iff_not]; omega
      have htk : l.take i = l := List.take_of_length_le (by rw [HLN.out]; exact Nat.le_refl _)
      rw [htk] at HO
      have HBL : Hid ((encL true n l).length = k) := Lib.hid (by rw [encL_len, HLN.out, HK.out])
      have HCV := Lib.hid (fun (W : World) (hk' : Keep nob wr W) => str_conv0 (HO.out.sl.keep hk' (fun ⟨_, _, h⟩ => h)) HBL.out (encL_8 true n l))
      have hcv := HCV.out wr (Keep.refl _ _)
      obtain ⟨T, HTX⟩ : ∃ T, Hid (Bt (encL true n l) = T) := ⟨_, Lib.hid rfl⟩
      rw [HTX.out] at hcv
      have HIW := Lib.hid (HIX.out wr HKW.out)
      go_wp2_with (go_at_call 69; go_must (refine (HIW.out.mono ?_)); rintro E w9 ⟨rfl, hw9⟩; cases hw9; have th9 := (HT0.out.keep' HKW.out).keep' ((Keep.refl nob wr).alloc (.cells #[.int .i8 6, .int .u64 0, .bool false, .slice none 0 0, .int .u64 0, .int .i8 0, .string T, .slice none 0 0] 39)); obtain ⟨v0, v1, v2, v3, v4, v5, v6, v7, ⟨c0, c1, c2, c3, c4, c5, c6, c7⟩, f0, f1, f2, f3, f4, f5, f6, f7⟩ := eight th9)
      have HNW := Lib.hid (one_sl wr ⟨6, 0, false, none, 0, 0, 0, 0, T, none, 0, 0⟩ 39)
      obtain ⟨w10, e10, r10, k10⟩ := put8 th9 ⟨9, tg, false, none, 0, 0, 0, 0, ⟨#[]⟩, some ⟨wr.heap.size, 0, none⟩, 1, 1⟩ (.int .i8 9) (.int .u64 (tg : Int)) (.bool false) (.slice none 0 0) (.int .u64 0) (.int .i8 0) (.string ⟨#[]⟩) (.slice (some ⟨wr.heap.size, 0, none⟩) 1 1) rfl
      rw [e10.out]
      have hs0 := HKW.out.size
      have hl0 := HL0.out
      refine ret_v rfl rfl rfl r10 ⟨?_, _, rfl, ?_⟩
      · exact ((HK0.out.then_ HKW.out).then_ ((Keep.refl nob wr).alloc _)).trans k10 (fun k h1 h2 => by omega)
      · have hbn : ¬ InB (· = b4) (some ⟨wr.heap.size, 0, none⟩) := fun ⟨a, ha, hS⟩ => by cases ha; have hS' : wr.heap.size = b4 := hS; omega
        have hsl := HNW.out.keep k10 hbn
        rw [← HTX.out] at hsl
        exact arr_tr hsl (by omega)

set_option maxRecDepth 100000 in
set_option maxHeartbeats 1000000 in
theorem array_big (e e' n i0 m c : Nat) (l : List Nat) (A : Option Addr) (B : Nat) (sa : Nat → Addr) (w : World) (g : GL B sa w) (hm : l.length = m) (h : Sl E64u w A c l)
    (hsz : ∀ w, Calls Tryz.prog 68 #[.int .i8 (e : Int)] w fun E w' => E = .returned (.int .i64 (n : Int)) ∧ w = w') (hn : 0 < n) (hn8 : n ≤ 8) (hmm : m ≤ 1000000000)
    (hor : e' = e) (hand : bits .and .i8 (e' : Int) 64 = 0) (hi : i0 < 23) (hk : kdL.getD i0 0 = e') (hne : ∀ j, j < i0 → kdL.getD j 0 ≠ e') :
    Calls Tryz.prog 36 #[.int .i8 (e : Int), .bool false, .slice A m c] w (ArrPost w (64 + i0) (encL false n l)) := by
  obtain ⟨w0, b4, HW0, HB4, HK0, HT0, HL0⟩ := start w
  have HG := Lib.hid g
  have HSZ := Lib.hid hsz
  have HIX := Lib.hid (fun (W : World) (hk' : Keep nob w0 W) => index_ok (e' : Int) i0 B sa W (g.keep (HK0.out.then_ hk') (fun _ h => h.elim)) hi (by rw [hk]) (fun j hj he => hne j hj (by omega)))
  have HLN := Lib.hid hm
  have HSL := Lib.hid (h.keep HK0.out (fun ⟨_, _, h⟩ => h))
  have hcap := h.cap
  have hle := h.le
  rw [hm] at hle
  have HNE := Lib.hid hn
  obtain ⟨q, HQ⟩ : ∃ q : Nat, Hid (n * m = q) := ⟨_, Lib.hid rfl⟩
  have hq8 : q ≤ 8000000000 := by rw [← HQ.out]; exact Nat.le_trans (Nat.mul_le_mul hn8 hmm) (by decide)
  have iq : IntKind.i64.wrap ((n : Int) * (m : Int)) = (q : Int) := by rw [← Int.natCast_mul, HQ.out, IntWalk.i64_left, IntWalk.wrap64_in _ ⟨by omega, by omega⟩]
  obtain ⟨tg, HTG⟩ : ∃ tg : Nat, Hid (64 + i0 = tg) := ⟨_, Lib.hid rfl⟩
  have it1 : IntKind.i64.wrap (64 + (i0 : Int)) = (tg : Int) := by rw [← HTG.out, IntWalk.i64_left, IntWalk.wrap64_in _ ⟨by omega, by omega⟩]; omega
  have it2 : IntKind.u64.wrap (tg : Int) = (tg : Int) := by rw [IntKind.wrap_u64, ← HTG.out]; omega
  obtain ⟨n1, HN1⟩ : ∃ n1 : Nat, Hid (n - 1 = n1) := ⟨_, Lib.hid rfl⟩
  have in1 : IntKind.i64.wrap ((n : Int) - 1) = (n1 : Int) := by rw [← HN1.out, IntWalk.i64_left, IntWalk.wrap64_in _ ⟨by omega, by omega⟩]; omega
  have HPOST : Hid (∀ E w', ArrPost w tg (encL false n l) E w' → ArrPost w (64 + i0) (encL false n l) E w') := Lib.hid (fun E w' h => by rw [HTG.out]; exact h)
  refine Calls.mono ?_ HPOST.out
  clear HPOST
  clear g hm h hsz hn hk hne
  subst hor
  go_enter Tryz.func36, Tryz.ntmps36
  go_upto_region 1 with (fail)
  rw [HW0.out, HB4.out]
  go_wp2_with (first
    | (go_at_call 68; go_must (refine ((HSZ.out _).mono ?_)); rintro E w1 ⟨rfl, rfl⟩)
    | (at_make; refine wpList_make_E EB rfl _ _ 114 rfl 5 _ 1 Tryz.underlying114 infoByte 0 q _ _ rfl rfl rfl rfl (Nat.zero_le _) (by omega) (by omega) ?_; intro w1 HW1))
  go_loopw [8, 30] (fun u8 u30 wr => ∃ (i k cc bb oo : Nat), i ≤ m ∧ k ≤ 8000000000 ∧ u8 = .slice (some ⟨bb, oo, none⟩) k cc ∧ u30 = .int .i64 (i : Int) ∧ Hid (k = n * i) ∧ Hid (Ow EB wr (some ⟨bb, oo, none⟩) cc (encL false n (l.take i))) ∧ Hid (w0.heap.size ≤ bb) ∧ Hid (Keep nob w0 wr)) (fun _ u30 _ => m - (intOf u30).toNat)
  case atStart =>
    refine ⟨0, 0, q, w0.heap.size, 0, Nat.zero_le _, by omega, rfl, rfl, Lib.hid rfl, ?_, Lib.hid (Nat.le_refl _), ?_⟩
    · refine Lib.hid ?_
      rw [HW1.out]
      exact ow_made EB w0 _ _ 0 rfl 0 q (Nat.zero_le _) (by omega)
    · refine Lib.hid ?_
      rw [HW1.out]
      exact (Keep.refl _ _).alloc _
  case round =>
    obtain ⟨i, k, cc, bb, oo, hi', hk8, rfl, rfl, HK, HO, HBB, HKW⟩ := hrel
    rcases Nat.lt_or_ge i m with hlt | hge
    · obtain ⟨x, HX⟩ : ∃ x, Hid (l.getD i 0 = x) := ⟨_, Lib.hid rfl⟩
      have hln : l ≠ [] := fun e => by have := HLN.out; rw [e] at this; simp at this; omega
      obtain ⟨ba, oa, rfl, -⟩ := HSL.out.at_ hln
      have hcx := slu_cell (HSL.out.keep HKW.out (fun ⟨_, _, h⟩ => h)) (by rw [HLN.out]; exact hlt) HX.out
      have q0 : (0 : Int) ≤ (i : Int) := by omega
      have q1 : (i : Int) < (m : Int) := by omega
      have d1 : decide ((i : Int) < (m : Int)) = true := by rw [decide_eq_true_iff]; omega
      have j5 : IntKind.i64.wrap ((i : Int) + 1) = (i : Int) + 1 := by rw [IntWalk.i64_left, IntWalk.wrap64_in _ ⟨by omega, by omega⟩]
      have HKN : Hid (k + n = n * (i + 1) ∧ k + n ≤ q) := by
        refine Lib.hid ⟨by rw [HK.out, Nat.mul_succ], ?_⟩
        rw [HK.out, ← HQ.out, ← Nat.mul_succ]
        exact Nat.mul_le_mul_left n hlt
      clear hln
      go_wp2_with (fail)
      have HKW' := HKW
      clear hcx
      go_loopw [8, 35] (fun u8 u35 wr' => ∃ (j k' cc bb oo : Nat), j ≤ n ∧ k' ≤ 8000000008 ∧ u8 = .slice (some ⟨bb, oo, none⟩) k' cc ∧ u35 = .int .i64 (j : Int) ∧ Hid (k' = k + j) ∧ Hid (Ow EB wr' (some ⟨bb, oo, none⟩) cc (encL false n (l.take i) ++ (elL false n x).take j)) ∧ Hid (w0.heap.size ≤ bb) ∧ Hid (Keep nob w0 wr')) (fun _ u35 _ => n - (intOf u35).toNat)
      case atStart => exact ⟨0, k, cc, bb, oo, Nat.zero_le _, by omega, rfl, rfl, Lib.hid rfl, Lib.hid (by rw [List.take_zero, List.append_nil]; exact HO.out), HBB, HKW⟩
      case round =>
        obtain ⟨j, k', cc, bb, oo, hj', hkk8, rfl, rfl, HKJ, HO, HBB, HKW⟩ := hrel
        rcases Nat.lt_or_ge j n with hjl | hjg
        · obtain ⟨d, HD⟩ : ∃ d, Hid (n - 1 - j = d) := ⟨_, Lib.hid rfl⟩
          have hd8 : d ≤ 7 := by rw [← HD.out]; omega
          have hj8 : j ≤ 7 := by omega
          have in2 : IntKind.i64.wrap ((n1 : Int) - (j : Int)) = (d : Int) := by rw [← HD.out, ← HN1.out, IntWalk.i64_left, IntWalk.wrap64_in _ ⟨by omega, by omega⟩]; omega
          obtain ⟨s8, HS8⟩ : ∃ s8, Hid (8 * d = s8) := ⟨_, Lib.hid rfl⟩
          obtain ⟨xs, HXS⟩ : ∃ xs, Hid (x / 2 ^ s8 = xs) := ⟨_, Lib.hid rfl⟩
          obtain ⟨y, HY⟩ : ∃ y, Hid (xs % 256 = y) := ⟨_, Lib.hid rfl⟩
          have k1 : IntKind.i64.wrap (8 * (d : Int)) = (s8 : Int) := by have := HS8.out; rw [IntWalk.i64_left, IntWalk.wrap64_in _ ⟨by omega, by omega⟩]; omega
          have k2 : (x : Int) / 2 ^ s8 = (xs : Int) := by rw [← HXS.out, Int.natCast_ediv, Int.natCast_pow]; rfl
          have k3 : IntKind.u8.wrap (xs : Int) = (y : Int) := by rw [IntKind.wrap_u8, ← HY.out]; omega
          have k5 : (xs : Int) % 256 = (y : Int) := by rw [← HY.out]; omega
          have jm : min s8 64 = s8 := by have := HS8.out; omega
          have hs0 : decide ((s8 : Int) < 0) = false := by simp
          have p0 : (0 : Int) ≤ (j : Int) := by omega
          have p1 : (j : Int) < (n : Int) := by omega
          have d2 : decide ((j : Int) < (n : Int)) = true := by rw [decide_eq_true_iff]; omega
          have k6 : IntKind.i64.wrap ((j : Int) + 1) = (j : Int) + 1 := by rw [IntWalk.i64_left, IntWalk.wrap64_in _ ⟨by omega, by omega⟩]
          have HLL : Hid ((encL false n (l.take i) ++ (elL false n x).take j).length = k') := by
            refine Lib.hid ?_
            rw [List.length_append, encL_len, List.length_take, List.length_take, HLN.out, elL_len, HKJ.out, HK.out, Nat.min_eq_left (by omega), Nat.min_eq_left (by omega)]
          have hkq : k' + 1 ≤ 8000000000 := by have h1 := HKJ.out; have h2 := HKN.out.2; omega
          have HOw : Hid (Ow EB (wr.alloc (.cells #[.int .u8 (y : Int)] 5)) (some ⟨bb, oo, none⟩) cc (encL false n (l.take i) ++ (elL false n x).take j)) := Lib.hid (HO.out.keep ((Keep.refl nob wr).alloc _) (fun ⟨_, _, h⟩ => h))
          have HSB : Hid (Sl EB (wr.alloc (.cells #[.int .u8 (y : Int)] 5)) (some ⟨wr.heap.size, 0, none⟩) 1 [y]) := Lib.hid (Ow.new_ EB wr _ _ 1 [y] (Nat.le_refl _) (by decide) rfl (fun j v hj => by simpa [El.flat_cons, El.flat_nil, EB] using hj)).sl
          go_wp2_with (at_builtin; refine wpList_append_ow EB rfl _ _ 114 rfl 5 _ 1 Tryz.underlying114 infoByte rfl (some ⟨bb, oo, none⟩) k' cc rfl _ HLL.out HOw.out (some ⟨wr.heap.size, 0, none⟩) 1 1 rfl [y] rfl HSB.out (by omega) (by omega) ?_; intro A' c' w6 hap; have HAP := Lib.hid hap; clear hap; have hA' := HAP.out.ow.sl.at_ (by simp); obtain ⟨bb', oo', rfl, -⟩ := hA')
          have HK6 : Hid (Keep nob w0 w6) := by
            refine Lib.hid ?_
            have h1 := HKW.out.then_ ((Keep.refl nob wr).alloc (.cells #[.int .u8 (y : Int)] 5))
            refine h1.trans HAP.out.keep (fun z hz ⟨a, ha, hb⟩ => ?_)
            cases ha
            have h3 := HBB.out
            dsimp only at hb
            omega
          refine ⟨⟨j + 1, k' + 1, c', bb', oo', hjl, by omega, rfl, rfl, Lib.hid (by rw [HKJ.out]; rfl), Lib.hid ?_, Lib.hid ?_, HK6⟩, by simp [intOf]; omega⟩
          · have hy : x / 256 ^ shiftB false n j % 256 = y := by
              rw [← HY.out, ← HXS.out, ← HS8.out, Nat.pow_mul]
              rw [← HD.out]; rfl
            have h1 := HAP.out.ow
            rw [List.append_assoc] at h1
            rw [elL_round false n x j hjl, hy]
            exact h1
          · rcases HAP.out.lies _ rfl with ⟨a0, h1, h2⟩ | ⟨h1, _⟩
            · cases h1
              have := HBB.out
              dsimp only at h2
              omega
            · have h2 := HKW.out.size
              simp at h1
              omega
        · obtain rfl : j = n := by omega
          have d2 : decide ((j : Int) < (j : Int)) = false := by rw [decide_eq_false_iff_not]; omega
          have HO2 : Hid (Ow EB wr (some ⟨bb, oo, none⟩) cc (encL false j (l.take (i + 1)))) := by
            refine Lib.hid ?_
            rw [← enc_take false j l i (by rw [HLN.out]; exact hlt), HX.out]
            exact HO.out
          have hkq : k' ≤ 8000000000 := by have h1 := HKJ.out; have h2 := HKN.out.2; omega
          go_wp2_with (fail)
          exact ⟨⟨i + 1, k', cc, bb, oo, hlt, hkq, rfl, rfl, Lib.hid (by rw [HKJ.out, HKN.out.1]), HO2, HBB, HKW⟩, by simp [intOf]; omega⟩
    · obtain rfl : i = m := by omega
      have d1 : decide ((i : Int) < (i : Int)) = false := by rw [decide_eq_false_iff_not]; omega
      have htk : l.take i = l := List.take_of_length_le (by rw [HLN.out]; exact Nat.le_refl _)
      rw [htk] at HO
      have HBL : Hid ((encL false n l).length = k) := Lib.hid (by rw [encL_len, HLN.out, HK.out])
      have HCV := Lib.hid (fun (W : World) (hk' : Keep nob wr W) => str_conv0 (HO.out.sl.keep hk' (fun ⟨_, _, h⟩ => h)) HBL.out (encL_8 false n l))
      have hcv := HCV.out wr (Keep.refl _ _)
      obtain ⟨T, HTX⟩ : ∃ T, Hid (Bt (encL false n l) = T) := ⟨_, Lib.hid rfl⟩
      rw [HTX.out] at hcv
      have HIW := Lib.hid (HIX.out wr HKW.out)
      go_wp2_with (go_at_call 69; go_must (refine (HIW.out.mono ?_)); rintro E w9 ⟨rfl, hw9⟩; cases hw9; have th9 := (HT0.out.keep' HKW.out).keep' ((Keep.refl nob wr).alloc (.cells #[.int .i8 6, .int .u64 0, .bool false, .slice none 0 0, .int .u64 0, .int .i8 0, .string T, .slice none 0 0] 39)); obtain ⟨v0, v1, v2, v3, v4, v5, v6, v7, ⟨c0, c1, c2, c3, c4, c5, c6, c7⟩, f0, f1, f2, f3, f4, f5, f6, f7⟩ := eight th9)
      have HNW := Lib.hid (one_sl wr ⟨6, 0, false, none, 0, 0, 0, 0, T, none, 0, 0⟩ 39)
      obtain ⟨w10, e10, r10, k10⟩ := put8 th9 ⟨9, tg, false, none, 0, 0, 0, 0, ⟨#[]⟩, some ⟨wr.heap.size, 0, none⟩, 1, 1⟩ (.int .i8 9) (.int .u64 (tg : Int)) (.bool false) (.slice none 0 0) (.int .u64 0) (.int .i8 0) (.string ⟨#[]⟩) (.slice (some ⟨wr.heap.size, 0, none⟩) 1 1) rfl
      rw [e10.out]
      have hs0 := HKW.out.size
      have hl0 := HL0.out
      refine ret_v rfl rfl rfl r10 ⟨?_, _, rfl, ?_⟩
      · exact ((HK0.out.then_ HKW.out).then_ ((Keep.refl nob wr).alloc _)).trans k10 (fun k h1 h2 => by omega)
      · have hbn : ¬ InB (· = b4) (some ⟨wr.heap.size, 0, none⟩) := fun ⟨a, ha, hS⟩ => by cases ha; have hS' : wr.heap.size = b4 := hS; omega
        have hsl := HNW.out.keep k10 hbn
        rw [← HTX.out] at hsl
        exact arr_tr hsl (by omega)

set_option maxRecDepth 100000 in
set_option maxHeartbeats 1000000 in
theorem array_one (e e' n i0 m c : Nat) (l : List Nat) (A : Option Addr) (B : Nat) (sa : Nat → Addr) (w : World) (g : GL B sa w) (hm : l.length = m) (h : Sl E64u w A c l)
    (hsz : ∀ w, Calls Tryz.prog 68 #[.int .i8 (e : Int)] w fun E w' => E = .returned (.int .i64 (n : Int)) ∧ w = w') (hn : 0 < n) (hn8 : n ≤ 8) (hmm : m ≤ 1000000000)
    (hd : decide ((n : Int) > 1) = false) (hor : e' = e) (hand : bits .and .i8 (e' : Int) 64 = 0) (hi : i0 < 23) (hk : kdL.getD i0 0 = e') (hne : ∀ j, j < i0 → kdL.getD j 0 ≠ e') :
    Calls Tryz.prog 36 #[.int .i8 (e : Int), .bool true, .slice A m c] w (ArrPost w (64 + i0) (encL false n l)) := by
  obtain ⟨w0, b4, HW0, HB4, HK0, HT0, HL0⟩ := start w
  have HG := Lib.hid g
  have HSZ := Lib.hid hsz
  have HIX := Lib.hid (fun (W : World) (hk' : Keep nob w0 W) => index_ok (e' : Int) i0 B sa W (g.keep (HK0.out.then_ hk') (fun _ h => h.elim)) hi (by rw [hk]) (fun j hj he => hne j hj (by omega)))
  have HLN := Lib.hid hm
  have HSL := Lib.hid (h.keep HK0.out (fun ⟨_, _, h⟩ => h))
  have hcap := h.cap
  have hle := h.le
  rw [hm] at hle
  have HNE := Lib.hid hn
  obtain ⟨q, HQ⟩ : ∃ q : Nat, Hid (n * m = q) := ⟨_, Lib.hid rfl⟩
  have hq8 : q ≤ 8000000000 := by rw [← HQ.out]; exact Nat.le_trans (Nat.mul_le_mul hn8 hmm) (by decide)
  have iq : IntKind.i64.wrap ((n : Int) * (m : Int)) = (q : Int) := by rw [← Int.natCast_mul, HQ.out, IntWalk.i64_left, IntWalk.wrap64_in _ ⟨by omega, by omega⟩]
  obtain ⟨tg, HTG⟩ : ∃ tg : Nat, Hid (64 + i0 = tg) := ⟨_, Lib.hid rfl⟩
  have it1 : IntKind.i64.wrap (64 + (i0 : Int)) = (tg : Int) := by rw [← HTG.out, IntWalk.i64_left, IntWalk.wrap64_in _ ⟨by omega, by omega⟩]; omega
  have it2 : IntKind.u64.wrap (tg : Int) = (tg : Int) := by rw [IntKind.wrap_u64, ← HTG.out]; omega
  obtain ⟨n1, HN1⟩ : ∃ n1 : Nat, Hid (n - 1 = n1) := ⟨_, Lib.hid rfl⟩
  have in1 : IntKind.i64.wrap ((n : Int) - 1) = (n1 : Int) := by rw [← HN1.out, IntWalk.i64_left, IntWalk.wrap64_in _ ⟨by omega, by omega⟩]; omega
  have HPOST : Hid (∀ E w', ArrPost w tg (encL false n l) E w' → ArrPost w (64 + i0) (encL false n l) E w') := Lib.hid (fun E w' h => by rw [HTG.out]; exact h)
  refine Calls.mono ?_ HPOST.out
  clear HPOST
  clear g hm h hsz hn hk hne
  subst hor
  go_enter Tryz.func36, Tryz.ntmps36
  go_upto_region 1 with (fail)
  rw [HW0.out, HB4.out]
  go_wp2_with (first
    | (go_at_call 68; go_must (refine ((HSZ.out _).mono ?_)); rintro E w1 ⟨rfl, rfl⟩)
    | (at_make; refine wpList_make_E EB rfl _ _ 114 rfl 5 _ 1 Tryz.underlying114 infoByte 0 q _ _ rfl rfl rfl rfl (Nat.zero_le _) (by omega) (by omega) ?_; intro w1 HW1))
  go_loopw [8, 30] (fun u8 u30 wr => ∃ (i k cc bb oo : Nat), i ≤ m ∧ k ≤ 8000000000 ∧ u8 = .slice (some ⟨bb, oo, none⟩) k cc ∧ u30 = .int .i64 (i : Int) ∧ Hid (k = n * i) ∧ Hid (Ow EB wr (some ⟨bb, oo, none⟩) cc (encL false n (l.take i))) ∧ Hid (w0.heap.size ≤ bb) ∧ Hid (Keep nob w0 wr)) (fun _ u30 _ => m - (intOf u30).toNat)
  case atStart =>
    refine ⟨0, 0, q, w0.heap.size, 0, Nat.zero_le _, by omega, rfl, rfl, Lib.hid rfl, ?_, Lib.hid (Nat.le_refl _), ?_⟩
    · refine Lib.hid ?_
      rw [HW1.out]
      exact ow_made EB w0 _ _ 0 rfl 0 q (Nat.zero_le _) (by omega)
    · refine Lib.hid ?_
      rw [HW1.out]
      exact (Keep.refl _ _).alloc _
  case round =>
    obtain ⟨i, k, cc, bb, oo, hi', hk8, rfl, rfl, HK, HO, HBB, HKW⟩ := hrel
    rcases Nat.lt_or_ge i m with hlt | hge
    · obtain ⟨x, HX⟩ : ∃ x, Hid (l.getD i 0 = x) := ⟨_, Lib.hid rfl⟩
      have hln : l ≠ [] := fun e => by have := HLN.out; rw [e] at this; simp at this; omega
      obtain ⟨ba, oa, rfl, -⟩ := HSL.out.at_ hln
      have hcx := slu_cell (HSL.out.keep HKW.out (fun ⟨_, _, h⟩ => h)) (by rw [HLN.out]; exact hlt) HX.out
      have q0 : (0 : Int) ≤ (i : Int) := by omega
      have q1 : (i : Int) < (m : Int) := by omega
      have d1 : decide ((i : Int) < (m : Int)) = true := by rw [decide_eq_true_iff]; omega
      have j5 : IntKind.i64.wrap ((i : Int) + 1) = (i : Int) + 1 := by rw [IntWalk.i64_left, IntWalk.wrap64_in _ ⟨by omega, by omega⟩]
      have HKN : Hid (k + n = n * (i + 1) ∧ k + n ≤ q) := by
        refine Lib.hid ⟨by rw [HK.out, Nat.mul_succ], ?_⟩
        rw [HK.out, ← HQ.out, ← Nat.mul_succ]
        exact Nat.mul_le_mul_left n hlt
      clear hln
      go_wp2_with (fail)
      have HKW' := HKW
      clear hcx
      go_loopw [8, 35] (fun u8 u35 wr' => ∃ (j k' cc bb oo : Nat), j ≤ n ∧ k' ≤ 8000000008 ∧ u8 = .slice (some ⟨bb, oo, none⟩) k' cc ∧ u35 = .int .i64 (j : Int) ∧ Hid (k' = k + j) ∧ Hid (Ow EB wr' (some ⟨bb, oo, none⟩) cc (encL false n (l.take i) ++ (elL false n x).take j)) ∧ Hid (w0.heap.size ≤ bb) ∧ Hid (Keep nob w0 wr')) (fun _ u35 _ => n - (intOf u35).toNat)
      case atStart => exact ⟨0, k, cc, bb, oo, Nat.zero_le _, by omega, rfl, rfl, Lib.hid rfl, Lib.hid (by rw [List.take_zero, List.append_nil]; exact HO.out), HBB, HKW⟩
      case round =>
        obtain ⟨j, k', cc, bb, oo, hj', hkk8, rfl, rfl, HKJ, HO, HBB, HKW⟩ := hrel
        rcases Nat.lt_or_ge j n with hjl | hjg
        · obtain ⟨d, HD⟩ : ∃ d, Hid (n - 1 - j = d) := ⟨_, Lib.hid rfl⟩
          have hd8 : d ≤ 7 := by rw [← HD.out]; omega
          have hj8 : j ≤ 7 := by omega
          have in2 : IntKind.i64.wrap ((n1 : Int) - (j : Int)) = (d : Int) := by rw [← HD.out, ← HN1.out, IntWalk.i64_left, IntWalk.wrap64_in _ ⟨by omega, by omega⟩]; omega
          obtain ⟨s8, HS8⟩ : ∃ s8, Hid (8 * d = s8) := ⟨_, Lib.hid rfl⟩
          obtain ⟨xs, HXS⟩ : ∃ xs, Hid (x / 2 ^ s8 = xs) := ⟨_, Lib.hid rfl⟩
          obtain ⟨y, HY⟩ : ∃ y, Hid (xs % 256 = y) := ⟨_, Lib.hid rfl⟩
          have k1 : IntKind.i64.wrap (8 * (d : Int)) = (s8 : Int) := by have := HS8.out; rw [IntWalk.i64_left, IntWalk.wrap64_in _ ⟨by omega, by omega⟩]; omega
          have k2 : (x : Int) / 2 ^ s8 = (xs : Int) := by rw [← HXS.out, Int.natCast_ediv, Int.natCast_pow]; rfl
          have k3 : IntKind.u8.wrap (xs : Int) = (y : Int) := by rw [IntKind.wrap_u8, ← HY.out]; omega
          have k5 : (xs : Int) % 256 = (y : Int) := by rw [← HY.out]; omega
          have jm : min s8 64 = s8 := by have := HS8.out; omega
          have hs0 : decide ((s8 : Int) < 0) = false := by simp
          have p0 : (0 : Int) ≤ (j : Int) := by omega
          have p1 : (j : Int) < (n : Int) := by omega
          have d2 : decide ((j : Int) < (n : Int)) = true := by rw [decide_eq_true_iff]; omega
          have k6 : IntKind.i64.wrap ((j : Int) + 1) = (j : Int) + 1 := by rw [IntWalk.i64_left, IntWalk.wrap64_in _ ⟨by omega, by omega⟩]
          have HLL : Hid ((encL false n (l.take i) ++ (elL false n x).take j).length = k') := by
            refine Lib.hid ?_
            rw [List.length_append, encL_len, List.length_take, List.length_take, HLN.out, elL_len, HKJ.out, HK.out, Nat.min_eq_left (by omega), Nat.min_eq_left (by omega)]
          have hkq : k' + 1 ≤ 8000000000 := by have h1 := HKJ.out; have h2 := HKN.out.2; omega
          have HOw : Hid (Ow EB (wr.alloc (.cells #[.int .u8 (y : Int)] 5)) (some ⟨bb, oo, none⟩) cc (encL false n (l.take i) ++ (elL false n x).take j)) := Lib.hid (HO.out.keep ((Keep.refl nob wr).alloc _) (fun ⟨_, _, h⟩ => h))
          have HSB : Hid (Sl EB (wr.alloc (.cells #[.int .u8 (y : Int)] 5)) (some ⟨wr.heap.size, 0, none⟩) 1 [y]) := Lib.hid (Ow.new_ EB wr _ _ 1 [y] (Nat.le_refl _) (by decide) rfl (fun j v hj => by simpa [El.flat_cons, El.flat_nil, EB] using hj)).sl
          go_wp2_with (at_builtin; refine wpList_append_ow EB rfl _ _ 114 rfl 5 _ 1 Tryz.underlying114 infoByte rfl (some ⟨bb, oo, none⟩) k' cc rfl _ HLL.out HOw.out (some ⟨wr.heap.size, 0, none⟩) 1 1 rfl [y] rfl HSB.out (by omega) (by omega) ?_; intro A' c' w6 hap; have HAP := Lib.hid hap; clear hap; have hA' := HAP.out.ow.sl.at_ (by simp); obtain ⟨bb', oo', rfl, -⟩ := hA')
          have HK6 : Hid (Keep nob w0 w6) := by
            refine Lib.hid ?_
            have h1 := HKW.out.then_ ((Keep.refl nob wr).alloc (.cells #[.int .u8 (y : Int)] 5))
            refine h1.trans HAP.out.keep (fun z hz ⟨a, ha, hb⟩ => ?_)
            cases ha
            have h3 := HBB.out
            dsimp only at hb
            omega
          refine ⟨⟨j + 1, k' + 1, c', bb', oo', hjl, by omega, rfl, rfl, Lib.hid (by rw [HKJ.out]; rfl), Lib.hid ?_, Lib.hid ?_, HK6⟩, by simp [intOf]; omega⟩
          · have hy : x / 256 ^ shiftB false n j % 256 = y := by
              rw [← HY.out, ← HXS.out, ← HS8.out, Nat.pow_mul]
              rw [← HD.out]; rfl
            have h1 := HAP.out.ow
            rw [List.append_assoc] at h1
            rw [elL_round false n x j hjl, hy]
            exact h1
          · rcases HAP.out.lies _ rfl with ⟨a0, h1, h2⟩ | ⟨h1, _⟩
            · cases h1
              have := HBB.out
              dsimp only at h2
              omega
            · have h2 := HKW.out.size
              simp at h1
              omega
        · obtain rfl : j = n := by omega
          have d2 : decide ((j : Int) < (j : Int)) = false := by rw [decide_eq_false_iff_not]; omega
          have HO2 : Hid (Ow EB wr (some ⟨bb, oo, none⟩) cc (encL false j (l.take (i + 1)))) := by
            refine Lib.hid ?_
            rw [← enc_take false j l i (by rw [HLN.out]; exact hlt), HX.out]
            exact HO.out
          have hkq : k' ≤ 8000000000 := by have h1 := HKJ.out; have h2 := HKN.out.2; omega
          go_wp2_with (fail)
          exact ⟨⟨i + 1, k', cc, bb, oo, hlt, hkq, rfl, rfl, Lib.hid (by rw [HKJ.out, HKN.out.1]), HO2, HBB, HKW⟩, by simp [intOf]; omega⟩
    · obtain rfl : i = m := by omega
      have d1 : decide ((i : Int) < (i : Int)) = false := by rw [decide_eq_false_iff_not]; omega
      have htk : l.take i = l := List.take_of_length_le (by rw [HLN.out]; exact Nat.le_refl _)
      rw [htk] at HO
      have HBL : Hid ((encL false n l).length = k) := Lib.hid (by rw [encL_len, HLN.out, HK.out])
      have HCV := Lib.hid (fun (W : World) (hk' : Keep nob wr W) => str_conv0 (HO.out.sl.keep hk' (fun ⟨_, _, h⟩ => h)) HBL.out (encL_8 false n l))
      have hcv := HCV.out wr (Keep.refl _ _)
      obtain ⟨T, HTX⟩ : ∃ T, Hid (Bt (encL false n l) = T) := ⟨_, Lib.hid rfl⟩
      rw [HTX.out] at hcv
      have HIW := Lib.hid (HIX.out wr HKW.out)
      go_wp2_with (go_at_call 69; go_must (refine (HIW.out.mono ?_)); rintro E w9 ⟨rfl, hw9⟩; cases hw9; have th9 := (HT0.out.keep' HKW.out).keep' ((Keep.refl nob wr).alloc (.cells #[.int .i8 6, .int .u64 0, .bool false, .slice none 0 0, .int .u64 0, .int .i8 0, .string T, .slice none 0 0] 39)); obtain ⟨v0, v1, v2, v3, v4, v5, v6, v7, ⟨c0, c1, c2, c3, c4, c5, c6, c7⟩, f0, f1, f2, f3, f4, f5, f6, f7⟩ := eight th9)
      have HNW := Lib.hid (one_sl wr ⟨6, 0, false, none, 0, 0, 0, 0, T, none, 0, 0⟩ 39)
      obtain ⟨w10, e10, r10, k10⟩ := put8 th9 ⟨9, tg, false, none, 0, 0, 0, 0, ⟨#[]⟩, some ⟨wr.heap.size, 0, none⟩, 1, 1⟩ (.int .i8 9) (.int .u64 (tg : Int)) (.bool false) (.slice none 0 0) (.int .u64 0) (.int .i8 0) (.string ⟨#[]⟩) (.slice (some ⟨wr.heap.size, 0, none⟩) 1 1) rfl
      rw [e10.out]
      have hs0 := HKW.out.size
      have hl0 := HL0.out
      refine ret_v rfl rfl rfl r10 ⟨?_, _, rfl, ?_⟩
      · exact ((HK0.out.then_ HKW.out).then_ ((Keep.refl nob wr).alloc _)).trans k10 (fun k h1 h2 => by omega)
      · have hbn : ¬ InB (· = b4) (some ⟨wr.heap.size, 0, none⟩) := fun ⟨a, ha, hS⟩ => by cases ha; have hS' : wr.heap.size = b4 := hS; omega
        have hsl := HNW.out.keep k10 hbn
        rw [← HTX.out] at hsl
        exact arr_tr hsl (by omega)
end Go.Proofs.YticnefkdkkjgcaaGreatDoor

/- The kinds: size, has, inside. Printed by mktd. -/
namespace Go.Proofs.YticnefkdkkjgcaaGreatDoor
open Go.RowKit

theorem wrap_i8' (n : Int) : IntKind.i8.wrap n = (n + 128) % 256 - 128 := by
  simp [IntKind.wrap, IntKind.bits, IntKind.signed]
  split <;> omega
theorem wrap_i16' (n : Int) : IntKind.i16.wrap n = (n + 32768) % 65536 - 32768 := by
  simp [IntKind.wrap, IntKind.bits, IntKind.signed]
  split <;> omega
/-- of how many bytes the kind's elements are -/
def kindB (e : Nat) : Nat := if e % 64 = 1 ∨ e % 64 = 5 then 1 else if e % 64 = 2 ∨ e % 64 = 6 then 2 else if e % 64 = 3 ∨ e % 64 = 7 then 4 else 8
theorem size_1 (w : World) : Calls Tryz.prog 68 #[.int .i8 1] w fun e w' => e = .returned (.int .i64 1) ∧ w' = w := by
  have h : bits .andNot .i8 1 64 = 1 := by decide
  go_enter Tryz.func68, Tryz.ntmps68
  go_wp2
  go_ret
  exact ⟨rfl, rfl⟩
theorem size_2 (w : World) : Calls Tryz.prog 68 #[.int .i8 2] w fun e w' => e = .returned (.int .i64 2) ∧ w' = w := by
  have h : bits .andNot .i8 2 64 = 2 := by decide
  go_enter Tryz.func68, Tryz.ntmps68
  go_wp2
  go_ret
  exact ⟨rfl, rfl⟩
theorem size_3 (w : World) : Calls Tryz.prog 68 #[.int .i8 3] w fun e w' => e = .returned (.int .i64 4) ∧ w' = w := by
  have h : bits .andNot .i8 3 64 = 3 := by decide
  go_enter Tryz.func68, Tryz.ntmps68
  go_wp2
  go_ret
  exact ⟨rfl, rfl⟩
theorem size_4 (w : World) : Calls Tryz.prog 68 #[.int .i8 4] w fun e w' => e = .returned (.int .i64 8) ∧ w' = w := by
  have h : bits .andNot .i8 4 64 = 4 := by decide
  go_enter Tryz.func68, Tryz.ntmps68
  go_wp2
  go_ret
  exact ⟨rfl, rfl⟩
theorem size_5 (w : World) : Calls Tryz.prog 68 #[.int .i8 5] w fun e w' => e = .returned (.int .i64 1) ∧ w' = w := by
  have h : bits .andNot .i8 5 64 = 5 := by decide
  go_enter Tryz.func68, Tryz.ntmps68
  go_wp2
  go_ret
  exact ⟨rfl, rfl⟩
theorem size_6 (w : World) : Calls Tryz.prog 68 #[.int .i8 6] w fun e w' => e = .returned (.int .i64 2) ∧ w' = w := by
  have h : bits .andNot .i8 6 64 = 6 := by decide
  go_enter Tryz.func68, Tryz.ntmps68
  go_wp2
  go_ret
  exact ⟨rfl, rfl⟩
theorem size_7 (w : World) : Calls Tryz.prog 68 #[.int .i8 7] w fun e w' => e = .returned (.int .i64 4) ∧ w' = w := by
  have h : bits .andNot .i8 7 64 = 7 := by decide
  go_enter Tryz.func68, Tryz.ntmps68
  go_wp2
  go_ret
  exact ⟨rfl, rfl⟩
theorem size_8 (w : World) : Calls Tryz.prog 68 #[.int .i8 8] w fun e w' => e = .returned (.int .i64 8) ∧ w' = w := by
  have h : bits .andNot .i8 8 64 = 8 := by decide
  go_enter Tryz.func68, Tryz.ntmps68
  go_wp2
  go_ret
  exact ⟨rfl, rfl⟩
theorem size_66 (w : World) : Calls Tryz.prog 68 #[.int .i8 66] w fun e w' => e = .returned (.int .i64 2) ∧ w' = w := by
  have h : bits .andNot .i8 66 64 = 2 := by decide
  go_enter Tryz.func68, Tryz.ntmps68
  go_wp2
  go_ret
  exact ⟨rfl, rfl⟩
theorem size_67 (w : World) : Calls Tryz.prog 68 #[.int .i8 67] w fun e w' => e = .returned (.int .i64 4) ∧ w' = w := by
  have h : bits .andNot .i8 67 64 = 3 := by decide
  go_enter Tryz.func68, Tryz.ntmps68
  go_wp2
  go_ret
  exact ⟨rfl, rfl⟩
theorem size_68 (w : World) : Calls Tryz.prog 68 #[.int .i8 68] w fun e w' => e = .returned (.int .i64 8) ∧ w' = w := by
  have h : bits .andNot .i8 68 64 = 4 := by decide
  go_enter Tryz.func68, Tryz.ntmps68
  go_wp2
  go_ret
  exact ⟨rfl, rfl⟩
theorem size_70 (w : World) : Calls Tryz.prog 68 #[.int .i8 70] w fun e w' => e = .returned (.int .i64 2) ∧ w' = w := by
  have h : bits .andNot .i8 70 64 = 6 := by decide
  go_enter Tryz.func68, Tryz.ntmps68
  go_wp2
  go_ret
  exact ⟨rfl, rfl⟩
theorem size_71 (w : World) : Calls Tryz.prog 68 #[.int .i8 71] w fun e w' => e = .returned (.int .i64 4) ∧ w' = w := by
  have h : bits .andNot .i8 71 64 = 7 := by decide
  go_enter Tryz.func68, Tryz.ntmps68
  go_wp2
  go_ret
  exact ⟨rfl, rfl⟩
theorem size_72 (w : World) : Calls Tryz.prog 68 #[.int .i8 72] w fun e w' => e = .returned (.int .i64 8) ∧ w' = w := by
  have h : bits .andNot .i8 72 64 = 8 := by decide
  go_enter Tryz.func68, Tryz.ntmps68
  go_wp2
  go_ret
  exact ⟨rfl, rfl⟩
theorem has_1 (z : Int) (w : World) : Calls Tryz.prog 50 #[.int .i8 1, .int .i64 z] w fun e w' => e = .returned (.bool (decide (0 ≤ z ∧ z < 256))) ∧ w' = w := by
  obtain ⟨u, HU⟩ : ∃ u : Int, Hid (IntKind.u8.wrap z = u) := ⟨_, Lib.hid rfl⟩
  have i1 : IntKind.u8.wrap z = u := HU.out
  have hu : 0 ≤ u ∧ u < 256 ∧ (u = z ↔ 0 ≤ z ∧ z < 256) := by rw [← HU.out, IntKind.wrap_u8]; omega
  have i2 : IntKind.i64.wrap u = u := by rw [IntWalk.i64_left, IntWalk.wrap64_in _ ⟨by omega, by omega⟩]
  have hb : (u == z) = decide (0 ≤ z ∧ z < 256) := by rw [Bool.eq_iff_iff, beq_iff_eq, decide_eq_true_iff]; exact hu.2.2
  have hb2 : (z == u) = decide (0 ≤ z ∧ z < 256) := by rw [Bool.eq_iff_iff, beq_iff_eq, decide_eq_true_iff, ← hu.2.2]; exact eq_comm
  obtain ⟨d, HD⟩ : ∃ d, Hid (decide (0 ≤ z ∧ z < 256) = d) := ⟨_, Lib.hid rfl⟩
  rw [HD.out] at hb hb2 ⊢
  clear hu
  go_enter Tryz.func50, Tryz.ntmps50
  go_wp2
  go_ret
  exact ⟨rfl, rfl⟩
theorem has_2 (z : Int) (w : World) : Calls Tryz.prog 50 #[.int .i8 2, .int .i64 z] w fun e w' => e = .returned (.bool (decide (0 ≤ z ∧ z < 65536))) ∧ w' = w := by
  obtain ⟨u, HU⟩ : ∃ u : Int, Hid (IntKind.u16.wrap z = u) := ⟨_, Lib.hid rfl⟩
  have i1 : IntKind.u16.wrap z = u := HU.out
  have hu : 0 ≤ u ∧ u < 65536 ∧ (u = z ↔ 0 ≤ z ∧ z < 65536) := by rw [← HU.out, IntKind.wrap_u16]; omega
  have i2 : IntKind.i64.wrap u = u := by rw [IntWalk.i64_left, IntWalk.wrap64_in _ ⟨by omega, by omega⟩]
  have hb : (u == z) = decide (0 ≤ z ∧ z < 65536) := by rw [Bool.eq_iff_iff, beq_iff_eq, decide_eq_true_iff]; exact hu.2.2
  have hb2 : (z == u) = decide (0 ≤ z ∧ z < 65536) := by rw [Bool.eq_iff_iff, beq_iff_eq, decide_eq_true_iff, ← hu.2.2]; exact eq_comm
  obtain ⟨d, HD⟩ : ∃ d, Hid (decide (0 ≤ z ∧ z < 65536) = d) := ⟨_, Lib.hid rfl⟩
  rw [HD.out] at hb hb2 ⊢
  clear hu
  go_enter Tryz.func50, Tryz.ntmps50
  go_wp2
  go_ret
  exact ⟨rfl, rfl⟩
theorem has_3 (z : Int) (w : World) : Calls Tryz.prog 50 #[.int .i8 3, .int .i64 z] w fun e w' => e = .returned (.bool (decide (0 ≤ z ∧ z < 4294967296))) ∧ w' = w := by
  obtain ⟨u, HU⟩ : ∃ u : Int, Hid (IntKind.u32.wrap z = u) := ⟨_, Lib.hid rfl⟩
  have i1 : IntKind.u32.wrap z = u := HU.out
  have hu : 0 ≤ u ∧ u < 4294967296 ∧ (u = z ↔ 0 ≤ z ∧ z < 4294967296) := by rw [← HU.out, IntKind.wrap_u32]; omega
  have i2 : IntKind.i64.wrap u = u := by rw [IntWalk.i64_left, IntWalk.wrap64_in _ ⟨by omega, by omega⟩]
  have hb : (u == z) = decide (0 ≤ z ∧ z < 4294967296) := by rw [Bool.eq_iff_iff, beq_iff_eq, decide_eq_true_iff]; exact hu.2.2
  have hb2 : (z == u) = decide (0 ≤ z ∧ z < 4294967296) := by rw [Bool.eq_iff_iff, beq_iff_eq, decide_eq_true_iff, ← hu.2.2]; exact eq_comm
  obtain ⟨d, HD⟩ : ∃ d, Hid (decide (0 ≤ z ∧ z < 4294967296) = d) := ⟨_, Lib.hid rfl⟩
  rw [HD.out] at hb hb2 ⊢
  clear hu
  go_enter Tryz.func50, Tryz.ntmps50
  go_wp2
  go_ret
  exact ⟨rfl, rfl⟩
theorem has_4 (z : Int) (w : World) : Calls Tryz.prog 50 #[.int .i8 4, .int .i64 z] w fun e w' => e = .returned (.bool (decide (0 ≤ z))) ∧ w' = w := by
  obtain ⟨d, HD⟩ : ∃ d, Hid (decide (0 ≤ z) = d) := ⟨_, Lib.hid rfl⟩
  have hb : decide (z ≥ 0) = d := HD.out
  rw [HD.out]
  go_enter Tryz.func50, Tryz.ntmps50
  go_wp2
  go_ret
  exact ⟨rfl, rfl⟩
theorem has_5 (z : Int) (w : World) : Calls Tryz.prog 50 #[.int .i8 5, .int .i64 z] w fun e w' => e = .returned (.bool (decide (-128 ≤ z ∧ z < 128))) ∧ w' = w := by
  obtain ⟨u, HU⟩ : ∃ u : Int, Hid (IntKind.i8.wrap z = u) := ⟨_, Lib.hid rfl⟩
  have i1 : IntKind.i8.wrap z = u := HU.out
  have hu : -128 ≤ u ∧ u < 128 ∧ (u = z ↔ -128 ≤ z ∧ z < 128) := by rw [← HU.out, wrap_i8']; omega
  have i2 : IntKind.i64.wrap u = u := by rw [IntWalk.i64_left, IntWalk.wrap64_in _ ⟨by omega, by omega⟩]
  have hb : (u == z) = decide (-128 ≤ z ∧ z < 128) := by rw [Bool.eq_iff_iff, beq_iff_eq, decide_eq_true_iff]; exact hu.2.2
  have hb2 : (z == u) = decide (-128 ≤ z ∧ z < 128) := by rw [Bool.eq_iff_iff, beq_iff_eq, decide_eq_true_iff, ← hu.2.2]; exact eq_comm
  obtain ⟨d, HD⟩ : ∃ d, Hid (decide (-128 ≤ z ∧ z < 128) = d) := ⟨_, Lib.hid rfl⟩
  rw [HD.out] at hb hb2 ⊢
  clear hu
  go_enter Tryz.func50, Tryz.ntmps50
  go_wp2
  go_ret
  exact ⟨rfl, rfl⟩
theorem has_6 (z : Int) (w : World) : Calls Tryz.prog 50 #[.int .i8 6, .int .i64 z] w fun e w' => e = .returned (.bool (decide (-32768 ≤ z ∧ z < 32768))) ∧ w' = w := by
  obtain ⟨u, HU⟩ : ∃ u : Int, Hid (IntKind.i16.wrap z = u) := ⟨_, Lib.hid rfl⟩
  have i1 : IntKind.i16.wrap z = u := HU.out
  have hu : -32768 ≤ u ∧ u < 32768 ∧ (u = z ↔ -32768 ≤ z ∧ z < 32768) := by rw [← HU.out, wrap_i16']; omega
  have i2 : IntKind.i64.wrap u = u := by rw [IntWalk.i64_left, IntWalk.wrap64_in _ ⟨by omega, by omega⟩]
  have hb : (u == z) = decide (-32768 ≤ z ∧ z < 32768) := by rw [Bool.eq_iff_iff, beq_iff_eq, decide_eq_true_iff]; exact hu.2.2
  have hb2 : (z == u) = decide (-32768 ≤ z ∧ z < 32768) := by rw [Bool.eq_iff_iff, beq_iff_eq, decide_eq_true_iff, ← hu.2.2]; exact eq_comm
  obtain ⟨d, HD⟩ : ∃ d, Hid (decide (-32768 ≤ z ∧ z < 32768) = d) := ⟨_, Lib.hid rfl⟩
  rw [HD.out] at hb hb2 ⊢
  clear hu
  go_enter Tryz.func50, Tryz.ntmps50
  go_wp2
  go_ret
  exact ⟨rfl, rfl⟩
theorem has_7 (z : Int) (w : World) : Calls Tryz.prog 50 #[.int .i8 7, .int .i64 z] w fun e w' => e = .returned (.bool (decide (-2147483648 ≤ z ∧ z < 2147483648))) ∧ w' = w := by
  obtain ⟨u, HU⟩ : ∃ u : Int, Hid (IntKind.i32.wrap z = u) := ⟨_, Lib.hid rfl⟩
  have i1 : IntKind.i32.wrap z = u := HU.out
  have hu : -2147483648 ≤ u ∧ u < 2147483648 ∧ (u = z ↔ -2147483648 ≤ z ∧ z < 2147483648) := by rw [← HU.out, IntKind.wrap_i32]; omega
  have i2 : IntKind.i64.wrap u = u := by rw [IntWalk.i64_left, IntWalk.wrap64_in _ ⟨by omega, by omega⟩]
  have hb : (u == z) = decide (-2147483648 ≤ z ∧ z < 2147483648) := by rw [Bool.eq_iff_iff, beq_iff_eq, decide_eq_true_iff]; exact hu.2.2
  have hb2 : (z == u) = decide (-2147483648 ≤ z ∧ z < 2147483648) := by rw [Bool.eq_iff_iff, beq_iff_eq, decide_eq_true_iff, ← hu.2.2]; exact eq_comm
  obtain ⟨d, HD⟩ : ∃ d, Hid (decide (-2147483648 ≤ z ∧ z < 2147483648) = d) := ⟨_, Lib.hid rfl⟩
  rw [HD.out] at hb hb2 ⊢
  clear hu
  go_enter Tryz.func50, Tryz.ntmps50
  go_wp2
  go_ret
  exact ⟨rfl, rfl⟩
theorem has_8 (z : Int) (w : World) : Calls Tryz.prog 50 #[.int .i8 8, .int .i64 z] w fun e w' => e = .returned (.bool (true)) ∧ w' = w := by
  go_enter Tryz.func50, Tryz.ntmps50
  go_wp2
  go_ret
  exact ⟨rfl, rfl⟩
end Go.Proofs.YticnefkdkkjgcaaGreatDoor

/- The kinds of whole numbers, together. Printed by mktm. -/
namespace Go.Proofs.YticnefkdkkjgcaaGreatDoor
open Go.RowKit

/-- of how many bytes a kind's elements are -/
def nK : Nat → Nat
  | 1 => 1
  | 2 => 2
  | 3 => 4
  | 4 => 8
  | 5 => 1
  | 6 => 2
  | 7 => 4
  | _ => 8
def sgK (k : Nat) : Bool := decide (5 ≤ k)
/-- is the lowest byte the first? -/
def litK (small : Bool) (k : Nat) : Bool := small && decide (1 < nK k)
def iB : Nat → Nat
  | 1 => 0
  | 2 => 1
  | 3 => 2
  | 4 => 3
  | 5 => 8
  | 6 => 9
  | 7 => 10
  | _ => 11
def iL : Nat → Nat
  | 2 => 5
  | 3 => 6
  | 4 => 7
  | 6 => 13
  | 7 => 14
  | _ => 15
/-- the place in the table -/
def iK (small : Bool) (k : Nat) : Nat := if litK small k then iL k else iB k
def eK (small : Bool) (k : Nat) : Nat := if litK small k then k + 64 else k
theorem nK_pos (k : Nat) : 0 < nK k ∧ nK k ≤ 8 := by unfold nK; split <;> decide
theorem kd_iK : ∀ small : Bool, ∀ k : Fin 9, 1 ≤ k.val → iK small k < 23 ∧ kdL.getD (iK small k) 0 = eK small k := by decide
theorem size'1 (w : World) : Calls Tryz.prog 68 #[.int .i8 ((1 : Nat) : Int)] w fun E w' => E = .returned (.int .i64 ((1 : Nat) : Int)) ∧ w = w' := (size_1 w).mono fun _ _ ⟨a, b⟩ => ⟨a, b.symm⟩
theorem size'2 (w : World) : Calls Tryz.prog 68 #[.int .i8 ((2 : Nat) : Int)] w fun E w' => E = .returned (.int .i64 ((2 : Nat) : Int)) ∧ w = w' := (size_2 w).mono fun _ _ ⟨a, b⟩ => ⟨a, b.symm⟩
theorem size'3 (w : World) : Calls Tryz.prog 68 #[.int .i8 ((3 : Nat) : Int)] w fun E w' => E = .returned (.int .i64 ((4 : Nat) : Int)) ∧ w = w' := (size_3 w).mono fun _ _ ⟨a, b⟩ => ⟨a, b.symm⟩
theorem size'4 (w : World) : Calls Tryz.prog 68 #[.int .i8 ((4 : Nat) : Int)] w fun E w' => E = .returned (.int .i64 ((8 : Nat) : Int)) ∧ w = w' := (size_4 w).mono fun _ _ ⟨a, b⟩ => ⟨a, b.symm⟩
theorem size'5 (w : World) : Calls Tryz.prog 68 #[.int .i8 ((5 : Nat) : Int)] w fun E w' => E = .returned (.int .i64 ((1 : Nat) : Int)) ∧ w = w' := (size_5 w).mono fun _ _ ⟨a, b⟩ => ⟨a, b.symm⟩
theorem size'6 (w : World) : Calls Tryz.prog 68 #[.int .i8 ((6 : Nat) : Int)] w fun E w' => E = .returned (.int .i64 ((2 : Nat) : Int)) ∧ w = w' := (size_6 w).mono fun _ _ ⟨a, b⟩ => ⟨a, b.symm⟩
theorem size'7 (w : World) : Calls Tryz.prog 68 #[.int .i8 ((7 : Nat) : Int)] w fun E w' => E = .returned (.int .i64 ((4 : Nat) : Int)) ∧ w = w' := (size_7 w).mono fun _ _ ⟨a, b⟩ => ⟨a, b.symm⟩
theorem size'8 (w : World) : Calls Tryz.prog 68 #[.int .i8 ((8 : Nat) : Int)] w fun E w' => E = .returned (.int .i64 ((8 : Nat) : Int)) ∧ w = w' := (size_8 w).mono fun _ _ ⟨a, b⟩ => ⟨a, b.symm⟩
/-- what array answers, of any kind of whole numbers -/
theorem array_ok (k : Nat) (small : Bool) (h1 : 1 ≤ k) (h8 : k ≤ 8) (l : List Nat) (m c : Nat) (A : Option Addr) (B : Nat) (sa : Nat → Addr) (w : World) (g : GL B sa w) (hm : l.length = m) (h : Sl E64u w A c l) (hmm : m ≤ 1000000000) :
    Calls Tryz.prog 36 #[.int .i8 (k : Int), .bool small, .slice A m c] w (ArrPost w (64 + iK small k) (encL (litK small k) (nK k) l)) := by
  have hk : k = 1 ∨ k = 2 ∨ k = 3 ∨ k = 4 ∨ k = 5 ∨ k = 6 ∨ k = 7 ∨ k = 8 := by omega
  cases small with
  | false =>
    rcases hk with rfl | rfl | rfl | rfl | rfl | rfl | rfl | rfl
    · exact array_big 1 1 1 0 m c l A B sa w g hm h size'1 (by decide) (by decide) hmm rfl (by decide) (by decide) rfl (by decide)
    · exact array_big 2 2 2 1 m c l A B sa w g hm h size'2 (by decide) (by decide) hmm rfl (by decide) (by decide) rfl (by decide)
    · exact array_big 3 3 4 2 m c l A B sa w g hm h size'3 (by decide) (by decide) hmm rfl (by decide) (by decide) rfl (by decide)
    · exact array_big 4 4 8 3 m c l A B sa w g hm h size'4 (by decide) (by decide) hmm rfl (by decide) (by decide) rfl (by decide)
    · exact array_big 5 5 1 8 m c l A B sa w g hm h size'5 (by decide) (by decide) hmm rfl (by decide) (by decide) rfl (by decide)
    · exact array_big 6 6 2 9 m c l A B sa w g hm h size'6 (by decide) (by decide) hmm rfl (by decide) (by decide) rfl (by decide)
    · exact array_big 7 7 4 10 m c l A B sa w g hm h size'7 (by decide) (by decide) hmm rfl (by decide) (by decide) rfl (by decide)
    · exact array_big 8 8 8 11 m c l A B sa w g hm h size'8 (by decide) (by decide) hmm rfl (by decide) (by decide) rfl (by decide)
  | true =>
    rcases hk with rfl | rfl | rfl | rfl | rfl | rfl | rfl | rfl
    · exact array_one 1 1 1 0 m c l A B sa w g hm h size'1 (by decide) (by decide) hmm (by decide) rfl (by decide) (by decide) rfl (by decide)
    · exact array_lit 2 66 2 5 m c l A B sa w g hm h size'2 (by decide) (by decide) hmm (by decide) (by decide) (by decide) (by decide) rfl (by decide)
    · exact array_lit 3 67 4 6 m c l A B sa w g hm h size'3 (by decide) (by decide) hmm (by decide) (by decide) (by decide) (by decide) rfl (by decide)
    · exact array_lit 4 68 8 7 m c l A B sa w g hm h size'4 (by decide) (by decide) hmm (by decide) (by decide) (by decide) (by decide) rfl (by decide)
    · exact array_one 5 5 1 8 m c l A B sa w g hm h size'5 (by decide) (by decide) hmm (by decide) rfl (by decide) (by decide) rfl (by decide)
    · exact array_lit 6 70 2 13 m c l A B sa w g hm h size'6 (by decide) (by decide) hmm (by decide) (by decide) (by decide) (by decide) rfl (by decide)
    · exact array_lit 7 71 4 14 m c l A B sa w g hm h size'7 (by decide) (by decide) hmm (by decide) (by decide) (by decide) (by decide) rfl (by decide)
    · exact array_lit 8 72 8 15 m c l A B sa w g hm h size'8 (by decide) (by decide) hmm (by decide) (by decide) (by decide) (by decide) rfl (by decide)
/-- has the kind the number? -/
def hasK (k : Nat) (z : Int) : Bool := match k with
  | 1 => decide (0 ≤ z ∧ z < 256)
  | 2 => decide (0 ≤ z ∧ z < 65536)
  | 3 => decide (0 ≤ z ∧ z < 4294967296)
  | 4 => decide (0 ≤ z)
  | 5 => decide (-128 ≤ z ∧ z < 128)
  | 6 => decide (-32768 ≤ z ∧ z < 32768)
  | 7 => decide (-2147483648 ≤ z ∧ z < 2147483648)
  | _ => true
theorem has_ok (k : Nat) (h1 : 1 ≤ k) (h8 : k ≤ 8) (z : Int) (w : World) : Calls Tryz.prog 50 #[.int .i8 (k : Int), .int .i64 z] w fun e w' => e = .returned (.bool (hasK k z)) ∧ w = w' := by
  have hk : k = 1 ∨ k = 2 ∨ k = 3 ∨ k = 4 ∨ k = 5 ∨ k = 6 ∨ k = 7 ∨ k = 8 := by omega
  rcases hk with rfl | rfl | rfl | rfl | rfl | rfl | rfl | rfl
  · exact (has_1 z w).mono fun _ _ ⟨a, b⟩ => ⟨a, b.symm⟩
  · exact (has_2 z w).mono fun _ _ ⟨a, b⟩ => ⟨a, b.symm⟩
  · exact (has_3 z w).mono fun _ _ ⟨a, b⟩ => ⟨a, b.symm⟩
  · exact (has_4 z w).mono fun _ _ ⟨a, b⟩ => ⟨a, b.symm⟩
  · exact (has_5 z w).mono fun _ _ ⟨a, b⟩ => ⟨a, b.symm⟩
  · exact (has_6 z w).mono fun _ _ ⟨a, b⟩ => ⟨a, b.symm⟩
  · exact (has_7 z w).mono fun _ _ ⟨a, b⟩ => ⟨a, b.symm⟩
  · exact (has_8 z w).mono fun _ _ ⟨a, b⟩ => ⟨a, b.symm⟩
theorem hasK_N (k : Nat) (h1 : 1 ≤ k) (h8 : k ≤ 8) (z : Int) (z1 : -9223372036854775808 ≤ z) (z2 : z < 9223372036854775808) : hasK k z = hasN (sgK k) (nK k) z := by
  have hk : k = 1 ∨ k = 2 ∨ k = 3 ∨ k = 4 ∨ k = 5 ∨ k = 6 ∨ k = 7 ∨ k = 8 := by omega
  rcases hk with rfl | rfl | rfl | rfl | rfl | rfl | rfl | rfl
  all_goals (unfold hasK hasN sgK nK; rw [Bool.eq_iff_iff]; simp; try omega)
end Go.Proofs.YticnefkdkkjgcaaGreatDoor

/- strconv.Itoa at this program: the library's contract laid as plain theorems; what it keeps. Printed by layitoa out of the kit's own tool's text. -/
namespace Go.Proofs.YticnefkdkkjgcaaGreatDoor
open Go.Shelf Go.RowKit

def itoaRen : Go.Shelf.Ren := ⟨fun | 171 => 59 | 243 => 87 | 246 => 114 | 283 => 137 | 284 => 138 | 285 => 139 | 286 => 140 | 129 => 154 | 317 => 153 | 318 => 155 | 319 => 156 | 320 => 157 | 337 => 162 | 338 => 127 | n => n, fun | 3 => 3 | 9 => 9 | 2 => 2 | 4 => 4 | 171 => 232 | 0 => 0 | 53 => 32 | 37 => 114 | 5 => 5 | 173 => 234 | 212 => 251 | 51 => 82 | 20 => 20 | 213 => 252 | 46 => 125 | 232 => 259 | 233 => 240 | n => n, fun | 17 => 20 | 18 => 21 | 19 => 16 | n => n⟩
theorem itoaLays : Go.Proofs.LaysM.n171 Tryz.prog itoaRen := {
  mixed := by kernel_rfl
  f129 := Tryz.func154.trans (congrArg some (by kernel_rfl))
  f171 := Tryz.func59.trans (congrArg some (by kernel_rfl))
  f243 := Tryz.func87.trans (congrArg some (by kernel_rfl))
  f246 := Tryz.func114.trans (congrArg some (by kernel_rfl))
  f283 := Tryz.func137.trans (congrArg some (by kernel_rfl))
  f284 := Tryz.func138.trans (congrArg some (by kernel_rfl))
  f285 := Tryz.func139.trans (congrArg some (by kernel_rfl))
  f286 := Tryz.func140.trans (congrArg some (by kernel_rfl))
  f317 := Tryz.func153.trans (congrArg some (by kernel_rfl))
  f318 := Tryz.func155.trans (congrArg some (by kernel_rfl))
  f319 := Tryz.func156.trans (congrArg some (by kernel_rfl))
  f320 := Tryz.func157.trans (congrArg some (by kernel_rfl))
  f337 := Tryz.func162.trans (congrArg some (by kernel_rfl))
  f338 := Tryz.func127.trans (congrArg some (by kernel_rfl))
  t0 := Tryz.underlying0
  a0 := Tryz.isAgg0
  z0 := Tryz.sizeOf0
  v0 := Tryz.zeroValue0
  t2 := Tryz.underlying2
  a2 := Tryz.isAgg2
  z2 := Tryz.sizeOf2
  v2 := Tryz.zeroValue2
  t3 := Tryz.underlying3
  a3 := Tryz.isAgg3
  z3 := Tryz.sizeOf3
  v3 := Tryz.zeroValue3
  t4 := Tryz.underlying4
  a4 := Tryz.isAgg4
  z4 := Tryz.sizeOf4
  v4 := Tryz.zeroValue4
  t5 := Tryz.underlying5
  a5 := Tryz.isAgg5
  z5 := Tryz.sizeOf5
  v5 := Tryz.zeroValue5
  t9 := Tryz.underlying9
  a9 := Tryz.isAgg9
  z9 := Tryz.sizeOf9
  v9 := Tryz.zeroValue9
  t20 := Tryz.underlying20
  a20 := Tryz.isAgg20
  z20 := Tryz.sizeOf20
  v20 := Tryz.zeroValue20
  t37 := Tryz.underlying114
  a37 := Tryz.isAgg114
  z37 := Tryz.sizeOf114
  v37 := Tryz.zeroValue114
  t46 := Tryz.underlying125
  a46 := Tryz.isAgg125
  z46 := Tryz.sizeOf125
  v46 := Tryz.zeroValue125
  t51 := Tryz.underlying82
  a51 := Tryz.isAgg82
  z51 := Tryz.sizeOf82
  v51 := Tryz.zeroValue82
  t53 := Tryz.underlying32
  a53 := Tryz.isAgg32
  z53 := Tryz.sizeOf32
  v53 := Tryz.zeroValue32
  t171 := Tryz.underlying232
  a171 := Tryz.isAgg232
  z171 := Tryz.sizeOf232
  v171 := Tryz.zeroValue232
  t173 := Tryz.underlying234
  a173 := Tryz.isAgg234
  z173 := Tryz.sizeOf234
  v173 := Tryz.zeroValue234
  t212 := Tryz.underlying251
  a212 := Tryz.isAgg251
  z212 := Tryz.sizeOf251
  v212 := Tryz.zeroValue251
  t213 := Tryz.underlying252
  a213 := Tryz.isAgg252
  z213 := Tryz.sizeOf252
  t232 := Tryz.underlying259
  a232 := Tryz.isAgg259
  z232 := Tryz.sizeOf259
  v232 := Tryz.zeroValue259
  t233 := Tryz.underlying240
  a233 := Tryz.isAgg240
  z233 := Tryz.sizeOf240
  v233 := Tryz.zeroValue240
  g17 := by kernel_rfl
  g18 := by kernel_rfl
  g19 := by kernel_rfl
  i0 := by kernel_rfl
  i2 := by kernel_rfl
  i3 := by kernel_rfl
  i4 := by kernel_rfl
  i5 := by kernel_rfl
  i9 := by kernel_rfl
  i20 := by kernel_rfl
  i37 := by kernel_rfl
  i46 := by kernel_rfl
  i51 := by kernel_rfl
  i53 := by kernel_rfl
  i171 := by kernel_rfl
  i173 := by kernel_rfl
  i212 := by kernel_rfl
  i232 := by kernel_rfl
  i233 := by kernel_rfl
  m17 := by kernel_rfl
  m18 := by kernel_rfl
  m19 := by kernel_rfl }
theorem keep_grow (w : World) (k : Nat) (os : Array Obj) : Keep nob w (Go.Sort.grow (w.drewN k) os) :=
  ⟨rfl, rfl, rfl, by show w.heap.size ≤ (w.heap ++ os).size; simp, fun i hi _ => by show (w.heap ++ os)[i]? = w.heap[i]?; rw [Array.getElem?_append_left hi]⟩
/-- a slice's place as digits -/
theorem itoa_ok (i : Nat) (hi : i < 9223372036854775808) (B : Nat) (sa : Nat → Addr) (w : World) (g : GL B sa w) :
    Calls Tryz.prog 59 #[.int .i64 (i : Int)] w fun e w' => ∃ s : ByteArray, e = .returned (.string s) ∧ s.size ≤ 21 ∧ Keep nob w w' :=
  (Any.strconv_Itoa (P := Tryz.prog) itoaLays (i : Int) (by omega) (by omega) w g.pw).mono fun _ _ ⟨h1, k, os, h2⟩ => ⟨_, h1, by
    have h3 := Lib.itoa_length_le (i : Int) (by omega) (by omega)
    show (Lib.itoa (i : Int)).toArray.size ≤ 21
    simpa using h3, h2 ▸ keep_grow w k os⟩
end Go.Proofs.YticnefkdkkjgcaaGreatDoor

/- fault.New of a number; typed.misfit. -/
namespace Go.Proofs.YticnefkdkkjgcaaGreatDoor
open Go.RowKit

/-- an error with a node's path: of a number, in a new block -/
def PErr (sa : Nat → Addr) (W : World) (D : Nat → Prop) (e : Value) (c p : Nat) (path : ByteArray) : Prop :=
  ∃ b, e = .iface 73 (.pointer (some ⟨b, 0, none⟩)) ∧ D b ∧ W.cell? ⟨b, 0, none⟩ = some (sent sa c) ∧ W.cell? ⟨b, 1, none⟩ = some (.int .i64 (p : Int)) ∧ W.cell? ⟨b, 2, none⟩ = some (.string path)
theorem PErr.keep {sa : Nat → Addr} {W W' : World} {D S : Nat → Prop} {e : Value} {c p : Nat} {path : ByteArray} (h : PErr sa W D e c p path) (k : Keep S W W') (hs : ∀ b, D b → ¬ S b) : PErr sa W' D e c p path := by
  obtain ⟨b, h0, h1, h2, h3, h4⟩ := h
  exact ⟨b, h0, h1, k.cell h2 (hs b h1), k.cell h3 (hs b h1), k.cell h4 (hs b h1)⟩
theorem PErr.mono {sa : Nat → Addr} {W : World} {D D' : Nat → Prop} {e : Value} {c p : Nat} {path : ByteArray} (h : PErr sa W D e c p path) (hd : ∀ b, b < W.heap.size → D b → D' b) : PErr sa W D' e c p path := by
  obtain ⟨b, h0, h1, h2, h3, h4⟩ := h
  exact ⟨b, h0, hd b (World.block_lt_of_cell? W _ h2) h1, h2, h3, h4⟩
set_option maxRecDepth 100000 in
theorem sentinel_4 (B : Nat) (sa : Nat → Addr) (w : World) (g : GL B sa w) :
    Calls Tryz.prog 52 #[.int .i64 4] w fun e w' => e = .returned (sent sa 4) ∧ Keep nob w w' := by
  have e1 := g.err 1 (by decide) (by decide)
  have e2 := g.err 2 (by decide) (by decide)
  have e3 := g.err 3 (by decide) (by decide)
  have e4 := g.err 4 (by decide) (by decide)
  have e5 := g.err 5 (by decide) (by decide)
  have e6 := g.err 6 (by decide) (by decide)
  have e7 := g.err 7 (by decide) (by decide)
  have e8 := g.err 8 (by decide) (by decide)
  have e9 := g.err 9 (by decide) (by decide)
  have e10 := g.err 10 (by decide) (by decide)
  have e11 := g.err 11 (by decide) (by decide)
  simp only [gerr, sent] at e1 e2 e3 e4 e5 e6 e7 e8 e9 e10 e11 ⊢
  go_enter Tryz.func52, Tryz.ntmps52
  go_wp2
  go_ret
  exact ⟨rfl, (Keep.refl _ _).alloc _⟩
set_option maxRecDepth 100000 in
theorem fnew_4 (p : Nat) (path : ByteArray) (B : Nat) (sa : Nat → Addr) (w : World) (g : GL B sa w) :
    Calls Tryz.prog 24 #[.int .i64 4, .int .i64 (p : Int), .string path] w fun e w' => ∃ ev, e = .returned ev ∧ Keep nob w w' ∧ PErr sa w' (fun k => w.heap.size ≤ k) ev 4 p path := by
  have HS := Lib.hid (sentinel_4 B sa w g)
  simp only [sent] at HS
  clear g
  go_enter Tryz.func24, Tryz.ntmps24
  go_wp2_with (go_at_call 52; go_must (refine HS.out.mono ?_); rintro e w1 ⟨rfl, hk1⟩; have HK1 := Lib.hid hk1; clear hk1)
  go_ret
  have hz := HK1.out.size
  refine ⟨_, rfl, HK1.out.then_ ((Keep.refl _ _).alloc _), w1.heap.size, rfl, hz, ?_, ?_, ?_⟩ <;> simp [sent]
theorem slash_cat {s : ByteArray} (hs : s.size ≤ 21) : (9223372036854775807 < 1 + s.size) = False := eq_false (by omega)
set_option maxRecDepth 100000 in
theorem misfit_ok (i : Nat) (hi : i < 9223372036854775808) (B : Nat) (sa : Nat → Addr) (w : World) (g : GL B sa w) :
    Calls Tryz.prog 35 #[.int .i64 (i : Int)] w fun e w' => ∃ ev path, e = .returned ev ∧ Keep nob w w' ∧ PErr sa w' (fun k => w.heap.size ≤ k) ev 4 0 path := by
  have HI := Lib.hid (itoa_ok i hi B sa w g)
  have HN := Lib.hid (fun (W : World) (path : ByteArray) (hk : Keep nob w W) => fnew_4 0 path B sa W (g.keep hk (fun _ h => h.elim)))
  clear g
  go_enter Tryz.func35, Tryz.ntmps35
  go_wp2_with (first
    | (go_at_call 59; go_must (refine HI.out.mono ?_); rintro e w1 ⟨s, rfl, hs, hk1⟩; have HK1 := Lib.hid hk1; clear hk1; have hcat := slash_cat hs; clear hs)
    | (go_at_call 24; go_must (refine (HN.out _ _ HK1.out).mono ?_); rintro e w2 ⟨ev, rfl, hk2, he⟩; have HK2 := Lib.hid hk2; have HE := Lib.hid he; clear hk2 he))
  go_ret
  have hz := HK1.out.size
  exact ⟨_, _, rfl, HK1.out.then_ HK2.out, HE.out.mono (fun b _ hb => by omega)⟩
/-- its number -/
theorem code_path {B : Nat} {sa : Nat → Addr} {w : World} (g : GL B sa w) {D : Nat → Prop} {ev : Value} {c p : Nat} {path : ByteArray} (hc : 1 ≤ c) (hc11 : c ≤ 11) (h : PErr sa w D ev c p path) : Calls Tryz.prog 20 #[ev] w fun e w' => e = .returned (.int .i64 (c : Int)) ∧ Keep nob w w' := by
  obtain ⟨pb, rfl, _, h2, _, _⟩ := h
  exact code_gen _ _ c hc hc11 B sa w g (fun W k j h1 h11 => is_fault (g.keep k (fun _ h => h.elim)) hc hc11 (k.cell h2 (fun h => h)) j h1 h11)
end Go.Proofs.YticnefkdkkjgcaaGreatDoor

/- typed.Ints. -/
namespace Go.Proofs.YticnefkdkkjgcaaGreatDoor
open Go.RowKit

theorem infoU64 : (Tryz.prog.info? 32).map (fun i => (i.zero, i.size, i.bytes)) = some (some (.int .u64 0), E64u.sz, 8) := by kernel_rfl
theorem fill_set (l : List Nat) (i m : Nat) (hm : l.length = m) (h : i < m) (x : Nat) (hx : l.getD i 0 = x) : (l.take i ++ List.replicate (m - i) 0).set i x = l.take (i + 1) ++ List.replicate (m - (i + 1)) 0 := by
  subst hm
  have hl : (l.take i).length = i := by rw [List.length_take]; omega
  rw [show l.length - i = (l.length - (i + 1)) + 1 by omega, List.replicate_succ, List.set_append, if_neg (by omega), hl, Nat.sub_self, List.set_cons_zero, take_getD h hx, List.append_assoc]
  rfl
/-- what Ints answers -/
def IntsPost (sa : Nat → Addr) (w : World) (k : Nat) (small : Bool) (l : List Int) (E : Ending) (w' : World) : Prop :=
  (l.all (hasK k) = true ∧ Keep nob w w' ∧ ∃ r, E = .returned (.tuple #[ER.val r, .nilIface]) ∧ Tr w' (fun b => w.heap.size ≤ b) r (arrV (64 + iK small k) (encL (litK small k) (nK k) (l.map bits64)))) ∨
  (l.all (hasK k) = false ∧ Keep nob w w' ∧ ∃ ev path, E = .returned (.tuple #[ER.val Raw.zero, ev]) ∧ PErr sa w' (fun b => w.heap.size ≤ b) ev 4 0 path)
theorem all_take {p : Int → Bool} {l : List Int} {i : Nat} {z : Int} (h : (l.take i).all p = true) (hi : i < l.length) (hz : l.getD i 0 = z) (hp : p z = true) : (l.take (i + 1)).all p = true := by
  rw [List.getD_eq_getElem?_getD, List.getElem?_eq_getElem hi, Option.getD_some] at hz
  rw [List.take_succ_eq_append_getElem hi, List.all_append, h, hz]
  simp [hp]
theorem all_not {p : Int → Bool} {l : List Int} {i : Nat} {z : Int} (hi : i < l.length) (hz : l.getD i 0 = z) (hp : p z = false) : l.all p = false := by
  rw [List.getD_eq_getElem?_getD, List.getElem?_eq_getElem hi, Option.getD_some] at hz
  rw [List.all_eq_false]
  exact ⟨l[i], List.getElem_mem hi, by rw [hz, hp]; decide⟩
set_option maxRecDepth 100000 in
set_option maxHeartbeats 1000000 in
theorem ints_ok (k : Nat) (small : Bool) (h1 : 1 ≤ k) (h8 : k ≤ 8) (l : List Int) (m c : Nat) (A : Option Addr) (B : Nat) (sa : Nat → Addr) (w : World) (g : GL B sa w) (hm : l.length = m) (h : Sl E64 w A c l) (hmm : m ≤ 1000000000) :
    Calls Tryz.prog 22 #[.slice A m c, .int .i8 (k : Int), .bool small] w (IntsPost sa w k small l) := by
  obtain ⟨w0, b4, HW0, HB4, HK0, HT0, HL0⟩ := start w
  have HG := Lib.hid (g.keep HK0.out (fun _ h => h.elim))
  have HLN := Lib.hid hm
  have HSL := Lib.hid (h.keep HK0.out (fun ⟨_, _, h⟩ => h))
  have hcap := h.cap
  have hle := h.le
  rw [hm] at hle
  have e1 : decide ((k : Int) < 1) = false := by rw [decide_eq_false_iff_not]; omega
  have e2 : decide ((k : Int) > 8) = false := by rw [decide_eq_false_iff_not]; omega
  have HHS := Lib.hid (fun (z : Int) (W : World) => has_ok k h1 h8 z W)
  have HAR := Lib.hid (fun (W : World) (hk : Keep nob w0 W) (A1 : Option Addr) (hs : Sl E64u W A1 m (l.map bits64)) => array_ok k small h1 h8 (l.map bits64) m m A1 B sa W (HG.out.keep hk (fun _ h => h.elim)) (by rw [List.length_map, hm]) hs hmm)
  obtain ⟨b5, HB5⟩ : ∃ b5, Hid (w0.heap.size = b5) := ⟨_, Lib.hid rfl⟩
  clear g hm h h1 h8
  go_enter Tryz.func22, Tryz.ntmps22
  go_upto_region 1 with (fail)
  rw [HW0.out, HB4.out]
  go_wp2_with (at_make; refine wpList_make_E E64u rfl _ _ 22 rfl 32 _ 8 Tryz.underlying22 infoU64 m m _ _ rfl rfl rfl rfl (Nat.le_refl _) (by omega) (by omega) ?_; intro w1 HW1)
  rw [HB5.out]
  go_loopw [24] (fun u24 wr => ∃ i : Nat, i ≤ m ∧ u24 = .int .i64 (i : Int) ∧ Hid ((l.take i).all (hasK k) = true) ∧ Hid (Ow E64u wr (some ⟨b5, 0, none⟩) m ((l.map bits64).take i ++ List.replicate (m - i) 0)) ∧ Hid (Keep nob w0 wr)) (fun u24 _ => m - (intOf u24).toNat)
  case atStart =>
    refine ⟨0, Nat.zero_le _, rfl, Lib.hid rfl, ?_, ?_⟩
    · refine Lib.hid ?_
      rw [HW1.out, ← HB5.out]
      exact ow_made E64u w0 _ _ 0 rfl m m (Nat.le_refl _) (by omega)
    · refine Lib.hid ?_
      rw [HW1.out]
      exact (Keep.refl _ _).alloc _
  case round =>
    obtain ⟨i, hi, rfl, HALL, HO, HK⟩ := hrel
    rcases Nat.lt_or_ge i m with hlt | hge
    · obtain ⟨z, HZ⟩ : ∃ z, Hid (l.getD i 0 = z) := ⟨_, Lib.hid rfl⟩
      obtain ⟨u, HU⟩ : ∃ u, Hid (bits64 z = u) := ⟨_, Lib.hid rfl⟩
      have hln : l ≠ [] := fun e => by have := HLN.out; rw [e] at this; simp at this; omega
      obtain ⟨ba, oa, rfl, -⟩ := HSL.out.at_ hln
      have hcx := sl64_cell (HSL.out.keep HK.out (fun ⟨_, _, h⟩ => h)) (by rw [HLN.out]; exact hlt) HZ.out
      have q0 : (0 : Int) ≤ (i : Int) := by omega
      have q1 : (i : Int) < (m : Int) := by omega
      have d1 : decide ((i : Int) < (m : Int)) = true := by rw [decide_eq_true_iff]; omega
      have j5 : IntKind.i64.wrap ((i : Int) + 1) = (i : Int) + 1 := by rw [IntWalk.i64_left, IntWalk.wrap64_in _ ⟨by omega, by omega⟩]
      have iu : IntKind.u64.wrap z = (u : Int) := by rw [← HU.out, bits64_eq, IntKind.wrap_u64]
      clear hln
      cases hh : hasK k z with
      | true =>
        have HS := Lib.hid (HHS.out z wr)
        rw [hh] at HS
        have HAL := Lib.hid (all_take HALL.out (by rw [HLN.out]; exact hlt) HZ.out hh)
        have hgu : (l.map bits64).getD i 0 = u := by
          have h3 := HZ.out
          rw [List.getD_eq_getElem?_getD, List.getElem?_eq_getElem (by rw [HLN.out]; exact hlt)] at h3
          rw [List.getD_eq_getElem?_getD, List.getElem?_map, List.getElem?_eq_getElem (by rw [HLN.out]; exact hlt), ← HU.out, ← h3]
          rfl
        have hll : ((l.map bits64).take i ++ List.replicate (m - i) 0).length = m := by rw [List.length_append, List.length_take, List.length_map, List.length_replicate, HLN.out]; omega
        have HPUT := Lib.hid (HO.out.put (i := i) (by rw [hll]; exact hlt) u)
        rw [fill_set (l.map bits64) i m (by rw [List.length_map, HLN.out]) hlt u hgu] at HPUT
        have HPE : Hid (wr.setCells b5 (0 + i * E64u.sz) (E64u.cells u) = wr.setCell ⟨b5, i, none⟩ (.int .u64 (u : Int))) := by
          unfold Hid
          simp [E64u, World.setCells]
        rw [HPE.out] at HPUT
        have hcs : ∃ v, wr.cell? ⟨b5, i, none⟩ = some v ∧ wr.frozen? ⟨b5, i, none⟩ = false := by
          obtain ⟨b', o', e', ht⟩ := HO.out.room (by omega)
          simp only [Option.some.injEq, Addr.mk.injEq, and_true] at e'
          obtain ⟨rfl, rfl⟩ := e'
          obtain ⟨t1, t2⟩ := ht i (by simp only [E64u]; omega)
          rw [Nat.zero_add] at t1 t2
          exact ⟨_, (Option.isSome_iff_exists.1 t1).choose_spec, t2⟩
        obtain ⟨v0, hv0, hf0⟩ := hcs
        have HKP : Hid (Keep nob w0 (wr.setCell ⟨b5, i, none⟩ (.int .u64 (u : Int)))) := Lib.hid (HK.out.setCell (fun h => by have := HB5.out; dsimp only at h; omega) _)
        clear hh hgu hll
        go_wp2_with (go_at_call 50; go_must (refine HS.out.mono ?_); rintro E w2 ⟨rfl, rfl⟩)
        exact ⟨⟨i + 1, hlt, rfl, HAL, HPUT, HKP⟩, by simp [intOf]; omega⟩
      | false =>
        have HS := Lib.hid (HHS.out z wr)
        rw [hh] at HS
        have HAN := Lib.hid (all_not (by rw [HLN.out]; exact hlt) HZ.out hh)
        have HMF := Lib.hid (fun (W : World) (hk : Keep nob wr W) => misfit_ok i (by omega) B sa W ((HG.out.keep HK.out (fun _ h => h.elim)).keep hk (fun _ h => h.elim)))
        have HM0 := Lib.hid (HMF.out wr (Keep.refl _ _))
        clear hh
        go_wp2_with (first
          | (go_at_call 50; go_must (refine HS.out.mono ?_); rintro E w2 ⟨rfl, rfl⟩)
          | (go_at_call 35; go_must (refine HM0.out.mono ?_); rintro E w3 ⟨ev, path, rfl, hk3, he⟩; have HK3 := Lib.hid hk3; have HE := Lib.hid he; clear hk3 he; obtain ⟨v0, v1, v2, v3, v4, v5, v6, v7, ⟨c0, c1, c2, c3, c4, c5, c6, c7⟩, f0, f1, f2, f3, f4, f5, f6, f7⟩ := eight ((HT0.out.keep' HK.out).keep' HK3.out)))
        obtain ⟨w10, e10, r10, k10⟩ := put8 ((HT0.out.keep' HK.out).keep' HK3.out) Raw.zero (.int .i8 0) (.int .u64 0) (.bool false) (.slice none 0 0) (.int .u64 0) (.int .i8 0) (.string ⟨#[]⟩) (.slice none 0 0) rfl
        rw [e10.out]
        have hz0 := HK.out.size
        have hz3 := HK3.out.size
        have hl0 := HL0.out
        refine ret_vt rfl rfl rfl rfl r10 (.inr ⟨HAN.out, ((HK0.out.then_ HK.out).then_ HK3.out).trans k10 (fun k h1 h2 => by omega), ev, path, rfl, ?_⟩)
        exact (HE.out.keep k10 (fun b hb e => by omega)).mono (fun b _ hb => by omega)
    · obtain rfl : i = m := by omega
      have d1 : decide ((i : Int) < (i : Int)) = false := by rw [decide_eq_false_iff_not]; omega
      have hl1 : (l.map bits64).take i ++ List.replicate (i - i) 0 = l.map bits64 := by rw [Nat.sub_self, List.replicate_zero, List.append_nil, List.take_of_length_le (by rw [List.length_map, HLN.out]; exact Nat.le_refl _)]
      rw [hl1] at HO
      have hl2 : l.take i = l := List.take_of_length_le (by rw [HLN.out]; exact Nat.le_refl _)
      rw [hl2] at HALL
      have HA := Lib.hid (HAR.out wr HK.out _ HO.out.sl)
      clear hl1 hl2
      go_wp2_with (go_at_call 36; go_must (refine HA.out.mono ?_); rintro E w3 ⟨hk3, r, rfl, ht3⟩; have HK3 := Lib.hid hk3; have HT3 := Lib.hid ht3; clear hk3 ht3; unfold ER; obtain ⟨v0, v1, v2, v3, v4, v5, v6, v7, ⟨c0, c1, c2, c3, c4, c5, c6, c7⟩, f0, f1, f2, f3, f4, f5, f6, f7⟩ := eight ((HT0.out.keep' HK.out).keep' HK3.out))
      obtain ⟨w10, e10, r10, k10⟩ := put8 ((HT0.out.keep' HK.out).keep' HK3.out) r (.int .i8 (r.kind : Int)) (.int .u64 (r.n : Int)) (.bool r.neg) (.slice r.mA r.mL r.mC) (.int .u64 (r.bits : Int)) (.int .i8 r.ext) (.string r.text) (.slice r.kA r.kL r.kC) rfl
      rw [e10.out]
      have hz0 := HK.out.size
      have hz3 := HK3.out.size
      have hl0 := HL0.out
      refine ret_vt rfl rfl rfl rfl r10 (.inl ⟨HALL.out, ((HK0.out.then_ HK.out).then_ HK3.out).trans k10 (fun k h1 h2 => by omega), r, rfl, ?_⟩)
      exact Tr.mono (fun b _ hb => by omega) _ _ (Tr.keep k10 (fun b hb e => by omega) _ _ HT3.out)
end Go.Proofs.YticnefkdkkjgcaaGreatDoor

/- typed.form of a typed array. Printed by mkto. -/
namespace Go.Proofs.YticnefkdkkjgcaaGreatDoor
open Go.RowKit

/-- three results -/
theorem ret_ttt {fn : Func} {p q u : Tmp} {R : Ending → World → Prop} {a : Act} {w : World} {v1 v2 v3 : Value} (h : fn.results = #[.tmp p, .tmp q, .tmp u]) (h1 : a.tmps.getD p undef = v1) (h2 : a.tmps.getD q undef = v2) (h3 : a.tmps.getD u undef = v3) (hd : a.defers = [])
    (hR : R (.returned (.tuple #[v1, v2, v3])) w) : bodyPost Tryz.prog fn R .ret a w := by
  refine bodyPost_ret (v := .tuple #[v1, v2, v3]) ?_ hd hR
  have h1' : a.tmps[p]?.getD undef = v1 := by rw [← h1]; simp
  have h2' : a.tmps[q]?.getD undef = v2 := by rw [← h2]; simp
  have h3' : a.tmps[u]?.getD undef = v3 := by rw [← h3]; simp
  simp [results, h, h1', h2', h3']
/-- a typed array's cells, laid open -/
theorem arr_open {W : World} {D : Nat → Prop} {r : Raw} {tag : Nat} {b : List Nat} (h : Tr W D r (arrV tag b)) : ∃ bk ok, r.kind = 9 ∧ r.n = tag ∧ r.kL = 1 ∧ r.kA = some ⟨bk, ok, none⟩ ∧ W.cell? ⟨bk, ok, none⟩ = some (.int .i8 6) ∧ W.cell? ⟨bk, ok + 6, none⟩ = some (.string (Bt b)) := by
  unfold arrV at h
  obtain ⟨h1, h2, h3, h4, h5, h6, h7, rs, g1, g2, g3, g4⟩ := h
  match rs, g4, g1, g2 with
  | [rk], g4, g1, g2 =>
    obtain ⟨bk, ok, hA, hr⟩ := g2.at_ (by simp)
    obtain ⟨k1, -, -, -, -, k6, -⟩ := g4.1
    refine ⟨bk, ok, h1, h2, by simpa using g1, hA, ?_, ?_⟩
    · have := hr 0 _ rfl
      rw [Nat.add_zero, k1] at this
      exact this
    · have := hr 6 _ rfl
      rw [k6] at this
      exact this
  | [], g4, _, _ => exact g4.elim
  | _ :: _ :: _, g4, _, _ => exact g4.2.elim
set_option maxRecDepth 100000 in
set_option maxHeartbeats 1000000 in
theorem form_ok (e n i0 : Nat) (b : List Nat) (hi : i0 < 23) (hk : kdL.getD i0 0 = e) (he0 : e ≠ 0) (hn : 0 < n) (hn8 : n ≤ 8) (hb : b.length % n = 0) (hbl : b.length ≤ 9000000000)
    (hsz : ∀ w, Calls Tryz.prog 68 #[.int .i8 (e : Int)] w fun E w' => E = .returned (.int .i64 (n : Int)) ∧ w = w')
    (r : Raw) (D : Nat → Prop) (B : Nat) (sa : Nat → Addr) (w : World) (g : GL B sa w) (ht : Tr w D r (arrV (64 + i0) b)) :
    Calls Tryz.prog 70 #[ER.val r] w fun E w' => E = .returned (.tuple #[.int .i8 (e : Int), .string (Bt b), .bool true]) ∧ Keep nob w w' := by
  obtain ⟨bk, ok, h1, h2, h3, h4, h5, h6⟩ := arr_open ht
  obtain ⟨T, HT⟩ : ∃ T, Hid (Bt b = T) := ⟨_, Lib.hid rfl⟩
  obtain ⟨L, HL⟩ : ∃ L, Hid (b.length = L) := ⟨_, Lib.hid rfl⟩
  have hts : T.size = L := by rw [← HT.out, Bt_size, HL.out]
  rw [HL.out] at hb hbl
  rw [HT.out] at h6 ⊢
  have HRN := Lib.hid (range_new w r 39)
  have HKA : Hid (Keep nob w (w.alloc (.cells (ER.cells r).toArray 39))) := Lib.hid ((Keep.refl _ _).alloc _)
  obtain ⟨x0, HX0⟩ : ∃ x0, Hid (w.alloc (.cells (ER.cells r).toArray 39) = x0) := ⟨_, Lib.hid rfl⟩
  obtain ⟨b0, HB0⟩ : ∃ b0, Hid (w.heap.size = b0) := ⟨_, Lib.hid rfl⟩
  rw [HX0.out, HB0.out] at HRN
  rw [HX0.out] at HKA
  obtain ⟨rk, rn, rneg, rA, rL, rC, rbits, rext, rtext, rkA, rkL, rkC⟩ := r
  dsimp only at h1 h2 h3 h4
  subst h1 h3 h4
  simp only [ER, Int.cast_ofNat_Int]
  have HX : Hid (w.alloc (.cells #[.int .i8 9, .int .u64 (rn : Int), .bool rneg, .slice rA rL rC, .int .u64 (rbits : Int), .int .i8 rext, .string rtext, .slice (some ⟨bk, ok, none⟩) 1 rkC] 39) = x0) := HX0
  have HCE : Hid (∀ w', Kept x0 w' → w'.rangeAt b0 0 (ER.cells ⟨9, rn, rneg, rA, rL, rC, rbits, rext, rtext, some ⟨bk, ok, none⟩, 1, rkC⟩) ∧ w'.cell? ⟨bk, ok, none⟩ = some (.int .i8 6) ∧ w'.cell? ⟨bk, ok + 6, none⟩ = some (.string T) ∧ w'.cell? ⟨11, i0, none⟩ = some (.int .i8 (e : Int))) := Lib.hid (fun w' hk' =>
    ⟨range_keep0 hk' HRN.out, (HKA.out.then_ hk').cell h5 (fun h => h), (HKA.out.then_ hk').cell h6 (fun h => h), by
      have := (HKA.out.then_ hk').cell (g.kd i0 hi) (fun h => h)
      rw [hk] at this
      exact this⟩)
  have HSZ := Lib.hid (fun (W : World) => (hsz W).mono (R' := fun E w' => E = .returned (.int .i64 (n : Int)) ∧ Kept W w') (fun E w2 h => ⟨h.1, h.2 ▸ Keep.refl _ _⟩))
  have e1 : decide ((rn : Int) < 64) = false := by rw [decide_eq_false_iff_not]; omega
  have e2 : IntKind.u64.wrap ((rn : Int) - 64) = (i0 : Int) := by rw [IntKind.wrap_u64]; omega
  have e3 : decide ((i0 : Int) ≥ 23) = false := by rw [decide_eq_false_iff_not]; omega
  have e4 : ((e : Int) == 0) = false := by rw [beq_eq_false_iff_ne]; omega
  have e4' : ((e : Int) != 0) = true := by rw [bne, e4]; rfl
  have e5 : (L : Int) % (n : Int) = 0 := by rw [← Int.natCast_emod, hb]; rfl
  have e6 : (L : Int).tmod (n : Int) = 0 := by rw [Int.tmod_eq_emod_of_nonneg (by omega)]; exact e5
  have e7 : ((n : Int) == 0) = false := by rw [beq_eq_false_iff_ne]; omega
  have e8 : ¬ (n : Int) = 0 := by omega
  have e9 : ¬ n = 0 := by omega
  have p1 : (0 : Int) ≤ (i0 : Int) := by omega
  have p2 : (i0 : Int) < 23 := by omega
  obtain ⟨⟨a0, a1, a2, a3, a4, a5, a6, a7⟩, c0, c6, -⟩ := (fun h => And.intro (cells_val (HCE.out x0 (Keep.refl _ _)).1) h) (HCE.out x0 (Keep.refl _ _)).2
  simp only [Int.cast_ofNat_Int] at a0 a7
  clear HX0 g ht hsz h2 hk e4 he0 hb hi h5 h6
  go_enter Tryz.func70, Tryz.ntmps70
  go_upto_region 1 with (fail)
  rw [HX.out, HB0.out]
  go_upto_region 3 with (fail)
  refine wp_region_kept (by kernel_rfl) (by kernel_rfl) (QV.out ?_)
  repeat (first
    | (refine kq_skip (by rfl) (fun K hK => ?_); go_simp; refine hK _ ?_; clear hK K)
    | (refine kq_want (by rfl) (fun K hK => ?_); first
        | (refine BigFrame.quiet_move _ rfl ?_; go_simp; refine hK _ ?_; clear hK K)
        | (refine kq_still ?_ (fun w' hw' => ?_) ?_; rotate_left; (obtain ⟨hrr, c0, c6, ck⟩ := HCE.out w' hw'; obtain ⟨a0, a1, a2, a3, a4, a5, a6, a7⟩ := cells_val hrr; simp only [Int.cast_ofNat_Int] at a0 a7; go_simp; first | done | exact rfl); go_simp; refine hK _ ?_; clear hK K)
        | (go_simp; apply Exists.intro; refine ⟨fun w' hw' => ?_, hK _ ?_⟩; (first | (fail)); rintro e w'' ⟨rfl, hk''⟩; exact ⟨rfl, hw'.then_ hk''⟩; clear hK K)))
  refine ⟨wpQuiet_nil ?_⟩
  intro x1 hk1
  have HK1 := Lib.hid hk1
  clear hk1
  go_upto_region 4 with (fail)
  refine wp_region_kept (by kernel_rfl) (by kernel_rfl) (QV.out ?_)
  repeat (first
    | (refine kq_skip (by rfl) (fun K hK => ?_); go_simp; refine hK _ ?_; clear hK K)
    | (refine kq_want (by rfl) (fun K hK => ?_); first
        | (refine BigFrame.quiet_move _ rfl ?_; go_simp; refine hK _ ?_; clear hK K)
        | (refine kq_still ?_ (fun w' hw' => ?_) ?_; rotate_left; (skip; go_simp; first | done | exact rfl); go_simp; refine hK _ ?_; clear hK K)
        | (go_simp; apply Exists.intro; refine ⟨fun w' hw' => ?_, hK _ ?_⟩; (first | (go_at_call 68; refine (HSZ.out w').mono ?_)); rintro e w'' ⟨rfl, hk''⟩; exact ⟨rfl, hw'.then_ hk''⟩; clear hK K)))
  refine ⟨wpQuiet_nil ?_⟩
  intro x2 hk2
  have HK2 := Lib.hid hk2
  clear hk2
  go_wp2
  exact ret_ttt rfl rfl rfl rfl rfl ⟨rfl, (HKA.out.then_ HK1.out).then_ HK2.out⟩
end Go.Proofs.YticnefkdkkjgcaaGreatDoor

/- whole.From of any 64 bits; number.OfInt of a number in normal form. Printed by mktb. -/
namespace Go.Proofs.YticnefkdkkjgcaaGreatDoor
open Go.RowKit

set_option maxRecDepth 100000 in
theorem from_neg (x : Nat) (h0 : 0 < x) (hx : x ≤ 9223372036854775808) (w : World) :
    Calls Tryz.prog 95 #[.int .i64 (-(x : Int))] w fun e w' => Keep nob w w' ∧ ∃ A', e = .returned (intV true A' (numL x).length (numL x).length) ∧ Sl EU w' A' (numL x).length (numL x) ∧ Lies (fun k => w.heap.size ≤ k) A' (numL x) := by
  obtain ⟨w0, b2, HW0, HB2, HK0, HT0, HL0⟩ := start2 w
  have hN := nFrom_ok x (by omega) w0
  obtain ⟨t1, t2⟩ := two32_num (x := x) (by omega)
  rw [t1, t2] at hN
  obtain ⟨n, HN⟩ : ∃ n, Hid ((numL x).length = n) := ⟨_, Lib.hid rfl⟩
  obtain ⟨z, HZ⟩ : ∃ z : Int, Hid (-(x : Int) = z) := ⟨_, Lib.hid rfl⟩
  rw [HN.out] at hN ⊢
  rw [HZ.out]
  have hz : decide (z < 0) = true := by rw [decide_eq_true_iff]; have := HZ.out; omega
  obtain ⟨u, HU⟩ : ∃ u : Int, Hid (IntKind.u64.wrap z = u) := ⟨_, Lib.hid rfl⟩
  have i1 : IntKind.u64.wrap z = u := HU.out
  have i2 : IntKind.u64.wrap (-u) = (x : Int) := by rw [← HU.out, IntKind.wrap_u64, IntKind.wrap_u64, ← HZ.out]; omega
  have hn0 : 0 < n := by rw [← HN.out]; exact (numL_pos_iff x).2 h0
  have HN0 := Lib.hid hn0
  clear hx t1 t2 h0 hn0
  go_enter Tryz.func95, Tryz.ntmps95
  go_upto_region 1 with (fail)
  rw [HW0.out, HB2.out]
  go_wp2_with (first
    | (go_at_call 98; go_must (refine hN.mono ?_); rintro e w1 ⟨hk1, A', rfl, hs1, hl1⟩; have HK1 := Lib.hid hk1; have HS1 := Lib.hid hs1; have HL1 := Lib.hid hl1; clear hk1 hs1 hl1)
    | (go_at_call 125; go_must (refine (made_ok _ _ _ _ _).mono ?_); rintro e w2 ⟨rfl, hk2⟩; unfold intV; have HK2 := Lib.hid hk2; clear hk2; obtain ⟨v0, v1, ⟨d0, d1⟩, f0, f1⟩ := two ((HT0.out.keep' HK1.out).keep' HK2.out)))
  obtain ⟨w3, e3, p0, p1, k3⟩ := put2 ((HT0.out.keep' HK1.out).keep' HK2.out) (.bool (decide (0 < n))) (.slice A' n n)
  rw [e3.out]
  have HA := HL0.out
  have k9 : Keep (· = b2) w0 w3 := ((HK1.out.then_ HK2.out).mono (fun _ _ h => h.elim)).then_ k3
  exact ret_int rfl rfl rfl p0 p1 ⟨HK0.out.trans k9 (fun k h1 h2 => by omega), A', by rw [decide_eq_true HN0.out], (HS1.out.keep HK2.out (fun ⟨_, _, h⟩ => h)).keepD k3 HL1.out (fun k hk e => by omega), HL1.out.mono HS1.out (fun k _ hk => by omega)⟩
set_option maxRecDepth 100000 in
theorem from_pos (x : Nat) (hx : x < 9223372036854775808) (w : World) :
    Calls Tryz.prog 95 #[.int .i64 ((x : Int))] w fun e w' => Keep nob w w' ∧ ∃ A', e = .returned (intV false A' (numL x).length (numL x).length) ∧ Sl EU w' A' (numL x).length (numL x) ∧ Lies (fun k => w.heap.size ≤ k) A' (numL x) := by
  obtain ⟨w0, b2, HW0, HB2, HK0, HT0, HL0⟩ := start2 w
  have hN := nFrom_ok x (by omega) w0
  obtain ⟨t1, t2⟩ := two32_num (x := x) (by omega)
  rw [t1, t2] at hN
  obtain ⟨n, HN⟩ : ∃ n, Hid ((numL x).length = n) := ⟨_, Lib.hid rfl⟩
  obtain ⟨z, HZ⟩ : ∃ z : Int, Hid ((x : Int) = z) := ⟨_, Lib.hid rfl⟩
  rw [HN.out] at hN ⊢
  rw [HZ.out]
  have hz : decide (z < 0) = false := by rw [decide_eq_false_iff_not]; have := HZ.out; omega
  have i1 : IntKind.u64.wrap z = (x : Int) := by rw [← HZ.out, IntKind.wrap_u64]; omega
  clear hx t1 t2
  go_enter Tryz.func95, Tryz.ntmps95
  go_upto_region 1 with (fail)
  rw [HW0.out, HB2.out]
  go_wp2_with (first
    | (go_at_call 98; go_must (refine hN.mono ?_); rintro e w1 ⟨hk1, A', rfl, hs1, hl1⟩; have HK1 := Lib.hid hk1; have HS1 := Lib.hid hs1; have HL1 := Lib.hid hl1; clear hk1 hs1 hl1)
    | (go_at_call 125; go_must (refine (made_ok _ _ _ _ _).mono ?_); rintro e w2 ⟨rfl, hk2⟩; unfold intV; have HK2 := Lib.hid hk2; clear hk2; obtain ⟨v0, v1, ⟨d0, d1⟩, f0, f1⟩ := two ((HT0.out.keep' HK1.out).keep' HK2.out)))
  obtain ⟨w3, e3, p0, p1, k3⟩ := put2 ((HT0.out.keep' HK1.out).keep' HK2.out) (.bool (false)) (.slice A' n n)
  rw [e3.out]
  have HA := HL0.out
  have k9 : Keep (· = b2) w0 w3 := ((HK1.out.then_ HK2.out).mono (fun _ _ h => h.elim)).then_ k3
  exact ret_int rfl rfl rfl p0 p1 ⟨HK0.out.trans k9 (fun k h1 h2 => by omega), A', rfl, (HS1.out.keep HK2.out (fun ⟨_, _, h⟩ => h)).keepD k3 HL1.out (fun k hk e => by omega), HL1.out.mono HS1.out (fun k _ hk => by omega)⟩
/-- whole.From, of any 64 bits -/
theorem from_int (z : Int) (h1 : -9223372036854775808 ≤ z) (h2 : z < 9223372036854775808) (w : World) :
    Calls Tryz.prog 95 #[.int .i64 z] w fun e w' => Keep nob w w' ∧ ∃ A', e = .returned (intV (decide (z < 0)) A' (numL z.natAbs).length (numL z.natAbs).length) ∧ Sl EU w' A' (numL z.natAbs).length (numL z.natAbs) ∧ Lies (fun k => w.heap.size ≤ k) A' (numL z.natAbs) := by
  rcases Int.lt_or_le z 0 with hz | hz
  · have h3 := from_neg z.natAbs (by omega) (by omega) w
    rw [show -((z.natAbs : Nat) : Int) = z by omega] at h3
    rw [decide_eq_true hz]
    exact h3
  · have h3 := from_pos z.natAbs (by omega) w
    rw [show ((z.natAbs : Nat) : Int) = z by omega] at h3
    rw [decide_eq_false (by omega)]
    exact h3
/-- number.OfInt of it -/
theorem ofint_int (z : Int) (hz : z.natAbs < 18446744073709551616) (A : Option Addr) (c : Nat) (w : World) (h : Sl EU w A c (numL z.natAbs)) :
    Calls Tryz.prog 91 #[intV (decide (z < 0)) A (numL z.natAbs).length c] w fun e w' => Keep nob w w' ∧ ∃ r, e = .returned (ER.val r) ∧ Tr w' (fun k => w.heap.size ≤ k) r (intW z) := by
  have hl : (numL z.natAbs).length ≤ 2 := numL_len_le (f := 2) (by omega)
  obtain ⟨c1, c2⟩ := numL_cut z.natAbs
  have h3 := OfInt_ok (decide (z < 0)) A c (numL z.natAbs).length (numL z.natAbs) w rfl h (by omega)
  rw [c1, c2] at h3
  have hg : negN (decide (z < 0)) (numL z.natAbs).length = decide (z < 0) := by
    unfold negN
    rcases Int.lt_or_le z 0 with h0 | h0
    · rw [decide_eq_true h0, decide_eq_true ((numL_pos_iff _).2 (by omega))]; rfl
    · rw [decide_eq_false (by omega)]; rfl
  rw [hg] at h3
  exact h3
end Go.Proofs.YticnefkdkkjgcaaGreatDoor

/- typed.one: an element by its bits. Printed by mktp. -/
namespace Go.Proofs.YticnefkdkkjgcaaGreatDoor
open Go.RowKit

/-- an element's new cells -/
theorem start10 (w : World) : ∃ w0 b4, Hid (w.alloc (.cells #[.int .i8 0, .int .u64 0, .bool false, .slice none 0 0, .int .u64 0, .int .i8 0, .string ⟨#[]⟩, .slice none 0 0, .float .f64 0, .bool false] 94) = w0) ∧ Hid (w.heap.size = b4) ∧ Hid (Keep nob w w0) ∧ Hid (w0.there b4 0 10) ∧ Hid (w.heap.size ≤ b4 ∧ b4 < w0.heap.size) :=
  ⟨_, _, Lib.hid rfl, Lib.hid rfl, Lib.hid ((Keep.refl _ _).alloc _), Lib.hid (there_alloc_new w _ _ 10 (Nat.le_refl _)), Lib.hid ⟨Nat.le_refl _, by simp⟩⟩
theorem ten {W : World} {b : Nat} (h : W.there b 0 10) : ∃ v0 v1 v2 v3 v4 v5 v6 v7 v8 v9, (W.cell? ⟨b, 0, none⟩ = some v0 ∧ W.cell? ⟨b, 1, none⟩ = some v1 ∧ W.cell? ⟨b, 2, none⟩ = some v2 ∧ W.cell? ⟨b, 3, none⟩ = some v3 ∧ W.cell? ⟨b, 4, none⟩ = some v4 ∧ W.cell? ⟨b, 5, none⟩ = some v5 ∧ W.cell? ⟨b, 6, none⟩ = some v6 ∧ W.cell? ⟨b, 7, none⟩ = some v7 ∧ W.cell? ⟨b, 8, none⟩ = some v8 ∧ W.cell? ⟨b, 9, none⟩ = some v9) ∧
    W.frozen? ⟨b, 0, none⟩ = false ∧ W.frozen? ⟨b, 1, none⟩ = false ∧ W.frozen? ⟨b, 2, none⟩ = false ∧ W.frozen? ⟨b, 3, none⟩ = false ∧ W.frozen? ⟨b, 4, none⟩ = false ∧ W.frozen? ⟨b, 5, none⟩ = false ∧ W.frozen? ⟨b, 6, none⟩ = false ∧ W.frozen? ⟨b, 7, none⟩ = false ∧ W.frozen? ⟨b, 8, none⟩ = false ∧ W.frozen? ⟨b, 9, none⟩ = false := by
  have c : ∀ j, j < 10 → ∃ v, W.cell? ⟨b, j, none⟩ = some v := fun j hj => by
    have := (h j hj).1
    rw [Nat.zero_add] at this
    exact Option.isSome_iff_exists.1 this
  have f : ∀ j, j < 10 → W.frozen? ⟨b, j, none⟩ = false := fun j hj => by
    have := (h j hj).2
    rwa [Nat.zero_add] at this
  obtain ⟨v0, c0⟩ := c 0 (by decide)
  obtain ⟨v1, c1⟩ := c 1 (by decide)
  obtain ⟨v2, c2⟩ := c 2 (by decide)
  obtain ⟨v3, c3⟩ := c 3 (by decide)
  obtain ⟨v4, c4⟩ := c 4 (by decide)
  obtain ⟨v5, c5⟩ := c 5 (by decide)
  obtain ⟨v6, c6⟩ := c 6 (by decide)
  obtain ⟨v7, c7⟩ := c 7 (by decide)
  obtain ⟨v8, c8⟩ := c 8 (by decide)
  obtain ⟨v9, c9⟩ := c 9 (by decide)
  exact ⟨v0, v1, v2, v3, v4, v5, v6, v7, v8, v9, ⟨c0, c1, c2, c3, c4, c5, c6, c7, c8, c9⟩, f 0 (by decide), f 1 (by decide), f 2 (by decide), f 3 (by decide), f 4 (by decide), f 5 (by decide), f 6 (by decide), f 7 (by decide), f 8 (by decide), f 9 (by decide)⟩
theorem put10 {w1 : World} {b4 : Nat} (th : w1.there b4 0 10) (e : Elm) (a0 a1 a2 a3 a4 a5 a6 a7 a8 a9 : Value) (h : [a0, a1, a2, a3, a4, a5, a6, a7, a8, a9] = EE.cells e) :
    ∃ w2, Hid (((((((((((w1.setCell ⟨b4, 0, none⟩ a0).setCell ⟨b4, 1, none⟩ a1).setCell ⟨b4, 2, none⟩ a2).setCell ⟨b4, 3, none⟩ a3).setCell ⟨b4, 4, none⟩ a4).setCell ⟨b4, 5, none⟩ a5).setCell ⟨b4, 6, none⟩ a6).setCell ⟨b4, 7, none⟩ a7).setCell ⟨b4, 8, none⟩ a8).setCell ⟨b4, 9, none⟩ a9) = w2) ∧ w2.rangeAt b4 0 (EE.cells e) ∧ Keep (· = b4) w1 w2 := by
  refine ⟨_, Lib.hid rfl, ?_, ?_⟩
  · have := World.rangeAt_setCells_same w1 b4 0 [a0, a1, a2, a3, a4, a5, a6, a7, a8, a9] th
    rw [← h]
    exact this
  · exact (Keep.refl (· = b4) w1).setCells (b := b4) [a0, a1, a2, a3, a4, a5, a6, a7, a8, a9] 0 (fun _ => rfl)
theorem elm_val {w : World} {b o : Nat} {e : Elm} (h : w.rangeAt b o (EE.cells e)) : w.cell? ⟨b, o + 0, none⟩ = some (.int .i8 (e.r.kind : Int)) ∧ w.cell? ⟨b, o + 1, none⟩ = some (.int .u64 (e.r.n : Int)) ∧ w.cell? ⟨b, o + 2, none⟩ = some (.bool e.r.neg) ∧ w.cell? ⟨b, o + 3, none⟩ = some (.slice e.r.mA e.r.mL e.r.mC) ∧ w.cell? ⟨b, o + 4, none⟩ = some (.int .u64 (e.r.bits : Int)) ∧ w.cell? ⟨b, o + 5, none⟩ = some (.int .i8 e.r.ext) ∧ w.cell? ⟨b, o + 6, none⟩ = some (.string e.r.text) ∧ w.cell? ⟨b, o + 7, none⟩ = some (.slice e.r.kA e.r.kL e.r.kC) ∧ w.cell? ⟨b, o + 8, none⟩ = some (.float .f64 e.x) ∧ w.cell? ⟨b, o + 9, none⟩ = some (.bool e.wrong) :=
  ⟨h 0 _ rfl, h 1 _ rfl, h 2 _ rfl, h 3 _ rfl, h 4 _ rfl, h 5 _ rfl, h 6 _ rfl, h 7 _ rfl, h 8 _ rfl, h 9 _ rfl⟩
theorem load_elm {w : World} {b : Nat} {e : Elm} (h : w.rangeAt b 0 (EE.cells e)) : (loadVar 94 ⟨b, 0, none⟩).run Tryz.prog w = .ok (EE.val e) w := by
  obtain ⟨h0, h1, h2, h3, h4, h5, h6, h7, h8, h9⟩ := elm_val h
  simp only [Nat.zero_add] at h0 h1 h2 h3 h4 h5 h6 h7 h8 h9
  go_simp
  rfl
theorem ret_e {fn : Func} {p : Tmp} {R : Ending → World → Prop} {a : Act} {w : World} {b : Nat} {e : Elm} (h : fn.results = #[.cell p 94]) (hp : a.tmps.getD p undef = .pointer (some ⟨b, 0, none⟩)) (hd : a.defers = [])
    (hr : w.rangeAt b 0 (EE.cells e)) (hR : R (.returned (EE.val e)) w) : bodyPost Tryz.prog fn R .ret a w := by
  refine bodyPost_ret (v := EE.val e) ?_ hd hR
  have hl := load_elm hr
  have hp' : a.tmps[p]?.getD undef = .pointer (some ⟨b, 0, none⟩) := by rw [← hp]; simp
  simp [results, h, hp', asAddr, hl]
/-- a float's store -/
theorem store_flt : ∀ (p : Addr) (x : Nat) (w : World), (store p (.float .f64 x)).run Tryz.prog w = stored Tryz.prog w p (.float .f64 x) .plain := fun p _ w => run_store Tryz.prog w p _ _ rfl
/-- what one answers: the number -/
def OnePost (w : World) (z : Int) (E : Ending) (w' : World) : Prop := Keep nob w w' ∧ ∃ r, E = .returned (EE.val ⟨r, 0, false⟩) ∧ Tr w' (fun k => w.heap.size ≤ k) r (intW z)
set_option maxRecDepth 100000 in
set_option maxHeartbeats 1000000 in
theorem one_1 (x : Nat) (z : Int) (h1 : -9223372036854775808 ≤ z) (h2 : z < 9223372036854775808) (i1 : IntKind.i64.wrap (x : Int) = z) (w : World) :
    Calls Tryz.prog 71 #[.int .i8 1, .int .u64 (x : Int)] w (OnePost w z) := by
  obtain ⟨w0, b4, HW0, HB4, HK0, HT0, HL0⟩ := start10 w
  have HF := Lib.hid (from_int z h1 h2 w0)
  have HO := Lib.hid (fun (W : World) (A : Option Addr) (hs : Sl EU W A (numL z.natAbs).length (numL z.natAbs)) => ofint_int z (by omega) A _ W hs)
  unfold intV at HF HO
  obtain ⟨L, HL⟩ : ∃ L, Hid ((numL z.natAbs).length = L) := ⟨_, Lib.hid rfl⟩
  obtain ⟨ng, HNG⟩ : ∃ ng, Hid (decide (z < 0) = ng) := ⟨_, Lib.hid rfl⟩
  rw [HL.out, HNG.out] at HF HO
  have hb : bits .andNot .i8 1 64 = 1 := by decide
  clear h1 h2
  have hfl := store_flt
  go_enter Tryz.func71, Tryz.ntmps71
  go_upto_region 1 with (fail)
  rw [HW0.out, HB4.out]
  go_wp2_with (first
    | (go_at_call 95; go_must (refine HF.out.mono ?_); rintro e w1 ⟨hk1, A', rfl, hs1, -⟩; have HK1 := Lib.hid hk1; have HS1 := Lib.hid hs1; clear hk1 hs1)
    | (go_at_call 91; go_must (refine (HO.out _ _ HS1.out).mono ?_); rintro e w2 ⟨hk2, r, rfl, ht2⟩; have HK2 := Lib.hid hk2; have HT2 := Lib.hid ht2; clear hk2 ht2; unfold ER; obtain ⟨v0, v1, v2, v3, v4, v5, v6, v7, v8, v9, ⟨d0, d1, d2, d3, d4, d5, d6, d7, d8, d9⟩, f0, f1, f2, f3, f4, f5, f6, f7, f8, f9⟩ := ten ((HT0.out.keep' HK1.out).keep' HK2.out)))
  obtain ⟨w3, e3, r3, k3⟩ := put10 ((HT0.out.keep' HK1.out).keep' HK2.out) ⟨r, 0, false⟩ (.int .i8 (r.kind : Int)) (.int .u64 (r.n : Int)) (.bool r.neg) (.slice r.mA r.mL r.mC) (.int .u64 (r.bits : Int)) (.int .i8 r.ext) (.string r.text) (.slice r.kA r.kL r.kC) (.float .f64 0) (.bool false) rfl
  rw [e3.out]
  have hl0 := HL0.out
  have hz1 := HK1.out.size
  refine ret_e rfl rfl rfl r3 ⟨((HK0.out.then_ HK1.out).then_ HK2.out).trans k3 (fun k h1 h2 => by omega), r, rfl, ?_⟩
  exact Tr.mono (fun k _ hk => by omega) _ _ (Tr.keep k3 (fun k hk e => by omega) _ _ HT2.out)
set_option maxRecDepth 100000 in
set_option maxHeartbeats 1000000 in
theorem one_66 (x : Nat) (z : Int) (h1 : -9223372036854775808 ≤ z) (h2 : z < 9223372036854775808) (i1 : IntKind.i64.wrap (x : Int) = z) (w : World) :
    Calls Tryz.prog 71 #[.int .i8 66, .int .u64 (x : Int)] w (OnePost w z) := by
  obtain ⟨w0, b4, HW0, HB4, HK0, HT0, HL0⟩ := start10 w
  have HF := Lib.hid (from_int z h1 h2 w0)
  have HO := Lib.hid (fun (W : World) (A : Option Addr) (hs : Sl EU W A (numL z.natAbs).length (numL z.natAbs)) => ofint_int z (by omega) A _ W hs)
  unfold intV at HF HO
  obtain ⟨L, HL⟩ : ∃ L, Hid ((numL z.natAbs).length = L) := ⟨_, Lib.hid rfl⟩
  obtain ⟨ng, HNG⟩ : ∃ ng, Hid (decide (z < 0) = ng) := ⟨_, Lib.hid rfl⟩
  rw [HL.out, HNG.out] at HF HO
  have hb : bits .andNot .i8 66 64 = 2 := by decide
  clear h1 h2
  have hfl := store_flt
  go_enter Tryz.func71, Tryz.ntmps71
  go_upto_region 1 with (fail)
  rw [HW0.out, HB4.out]
  go_wp2_with (first
    | (go_at_call 95; go_must (refine HF.out.mono ?_); rintro e w1 ⟨hk1, A', rfl, hs1, -⟩; have HK1 := Lib.hid hk1; have HS1 := Lib.hid hs1; clear hk1 hs1)
    | (go_at_call 91; go_must (refine (HO.out _ _ HS1.out).mono ?_); rintro e w2 ⟨hk2, r, rfl, ht2⟩; have HK2 := Lib.hid hk2; have HT2 := Lib.hid ht2; clear hk2 ht2; unfold ER; obtain ⟨v0, v1, v2, v3, v4, v5, v6, v7, v8, v9, ⟨d0, d1, d2, d3, d4, d5, d6, d7, d8, d9⟩, f0, f1, f2, f3, f4, f5, f6, f7, f8, f9⟩ := ten ((HT0.out.keep' HK1.out).keep' HK2.out)))
  obtain ⟨w3, e3, r3, k3⟩ := put10 ((HT0.out.keep' HK1.out).keep' HK2.out) ⟨r, 0, false⟩ (.int .i8 (r.kind : Int)) (.int .u64 (r.n : Int)) (.bool r.neg) (.slice r.mA r.mL r.mC) (.int .u64 (r.bits : Int)) (.int .i8 r.ext) (.string r.text) (.slice r.kA r.kL r.kC) (.float .f64 0) (.bool false) rfl
  rw [e3.out]
  have hl0 := HL0.out
  have hz1 := HK1.out.size
  refine ret_e rfl rfl rfl r3 ⟨((HK0.out.then_ HK1.out).then_ HK2.out).trans k3 (fun k h1 h2 => by omega), r, rfl, ?_⟩
  exact Tr.mono (fun k _ hk => by omega) _ _ (Tr.keep k3 (fun k hk e => by omega) _ _ HT2.out)
set_option maxRecDepth 100000 in
set_option maxHeartbeats 1000000 in
theorem one_2 (x : Nat) (z : Int) (h1 : -9223372036854775808 ≤ z) (h2 : z < 9223372036854775808) (i1 : IntKind.i64.wrap (x : Int) = z) (w : World) :
    Calls Tryz.prog 71 #[.int .i8 2, .int .u64 (x : Int)] w (OnePost w z) := by
  obtain ⟨w0, b4, HW0, HB4, HK0, HT0, HL0⟩ := start10 w
  have HF := Lib.hid (from_int z h1 h2 w0)
  have HO := Lib.hid (fun (W : World) (A : Option Addr) (hs : Sl EU W A (numL z.natAbs).length (numL z.natAbs)) => ofint_int z (by omega) A _ W hs)
  unfold intV at HF HO
  obtain ⟨L, HL⟩ : ∃ L, Hid ((numL z.natAbs).length = L) := ⟨_, Lib.hid rfl⟩
  obtain ⟨ng, HNG⟩ : ∃ ng, Hid (decide (z < 0) = ng) := ⟨_, Lib.hid rfl⟩
  rw [HL.out, HNG.out] at HF HO
  have hb : bits .andNot .i8 2 64 = 2 := by decide
  clear h1 h2
  have hfl := store_flt
  go_enter Tryz.func71, Tryz.ntmps71
  go_upto_region 1 with (fail)
  rw [HW0.out, HB4.out]
  go_wp2_with (first
    | (go_at_call 95; go_must (refine HF.out.mono ?_); rintro e w1 ⟨hk1, A', rfl, hs1, -⟩; have HK1 := Lib.hid hk1; have HS1 := Lib.hid hs1; clear hk1 hs1)
    | (go_at_call 91; go_must (refine (HO.out _ _ HS1.out).mono ?_); rintro e w2 ⟨hk2, r, rfl, ht2⟩; have HK2 := Lib.hid hk2; have HT2 := Lib.hid ht2; clear hk2 ht2; unfold ER; obtain ⟨v0, v1, v2, v3, v4, v5, v6, v7, v8, v9, ⟨d0, d1, d2, d3, d4, d5, d6, d7, d8, d9⟩, f0, f1, f2, f3, f4, f5, f6, f7, f8, f9⟩ := ten ((HT0.out.keep' HK1.out).keep' HK2.out)))
  obtain ⟨w3, e3, r3, k3⟩ := put10 ((HT0.out.keep' HK1.out).keep' HK2.out) ⟨r, 0, false⟩ (.int .i8 (r.kind : Int)) (.int .u64 (r.n : Int)) (.bool r.neg) (.slice r.mA r.mL r.mC) (.int .u64 (r.bits : Int)) (.int .i8 r.ext) (.string r.text) (.slice r.kA r.kL r.kC) (.float .f64 0) (.bool false) rfl
  rw [e3.out]
  have hl0 := HL0.out
  have hz1 := HK1.out.size
  refine ret_e rfl rfl rfl r3 ⟨((HK0.out.then_ HK1.out).then_ HK2.out).trans k3 (fun k h1 h2 => by omega), r, rfl, ?_⟩
  exact Tr.mono (fun k _ hk => by omega) _ _ (Tr.keep k3 (fun k hk e => by omega) _ _ HT2.out)
set_option maxRecDepth 100000 in
set_option maxHeartbeats 1000000 in
theorem one_67 (x : Nat) (z : Int) (h1 : -9223372036854775808 ≤ z) (h2 : z < 9223372036854775808) (i1 : IntKind.i64.wrap (x : Int) = z) (w : World) :
    Calls Tryz.prog 71 #[.int .i8 67, .int .u64 (x : Int)] w (OnePost w z) := by
  obtain ⟨w0, b4, HW0, HB4, HK0, HT0, HL0⟩ := start10 w
  have HF := Lib.hid (from_int z h1 h2 w0)
  have HO := Lib.hid (fun (W : World) (A : Option Addr) (hs : Sl EU W A (numL z.natAbs).length (numL z.natAbs)) => ofint_int z (by omega) A _ W hs)
  unfold intV at HF HO
  obtain ⟨L, HL⟩ : ∃ L, Hid ((numL z.natAbs).length = L) := ⟨_, Lib.hid rfl⟩
  obtain ⟨ng, HNG⟩ : ∃ ng, Hid (decide (z < 0) = ng) := ⟨_, Lib.hid rfl⟩
  rw [HL.out, HNG.out] at HF HO
  have hb : bits .andNot .i8 67 64 = 3 := by decide
  clear h1 h2
  have hfl := store_flt
  go_enter Tryz.func71, Tryz.ntmps71
  go_upto_region 1 with (fail)
  rw [HW0.out, HB4.out]
  go_wp2_with (first
    | (go_at_call 95; go_must (refine HF.out.mono ?_); rintro e w1 ⟨hk1, A', rfl, hs1, -⟩; have HK1 := Lib.hid hk1; have HS1 := Lib.hid hs1; clear hk1 hs1)
    | (go_at_call 91; go_must (refine (HO.out _ _ HS1.out).mono ?_); rintro e w2 ⟨hk2, r, rfl, ht2⟩; have HK2 := Lib.hid hk2; have HT2 := Lib.hid ht2; clear hk2 ht2; unfold ER; obtain ⟨v0, v1, v2, v3, v4, v5, v6, v7, v8, v9, ⟨d0, d1, d2, d3, d4, d5, d6, d7, d8, d9⟩, f0, f1, f2, f3, f4, f5, f6, f7, f8, f9⟩ := ten ((HT0.out.keep' HK1.out).keep' HK2.out)))
  obtain ⟨w3, e3, r3, k3⟩ := put10 ((HT0.out.keep' HK1.out).keep' HK2.out) ⟨r, 0, false⟩ (.int .i8 (r.kind : Int)) (.int .u64 (r.n : Int)) (.bool r.neg) (.slice r.mA r.mL r.mC) (.int .u64 (r.bits : Int)) (.int .i8 r.ext) (.string r.text) (.slice r.kA r.kL r.kC) (.float .f64 0) (.bool false) rfl
  rw [e3.out]
  have hl0 := HL0.out
  have hz1 := HK1.out.size
  refine ret_e rfl rfl rfl r3 ⟨((HK0.out.then_ HK1.out).then_ HK2.out).trans k3 (fun k h1 h2 => by omega), r, rfl, ?_⟩
  exact Tr.mono (fun k _ hk => by omega) _ _ (Tr.keep k3 (fun k hk e => by omega) _ _ HT2.out)
set_option maxRecDepth 100000 in
set_option maxHeartbeats 1000000 in
theorem one_3 (x : Nat) (z : Int) (h1 : -9223372036854775808 ≤ z) (h2 : z < 9223372036854775808) (i1 : IntKind.i64.wrap (x : Int) = z) (w : World) :
    Calls Tryz.prog 71 #[.int .i8 3, .int .u64 (x : Int)] w (OnePost w z) := by
  obtain ⟨w0, b4, HW0, HB4, HK0, HT0, HL0⟩ := start10 w
  have HF := Lib.hid (from_int z h1 h2 w0)
  have HO := Lib.hid (fun (W : World) (A : Option Addr) (hs : Sl EU W A (numL z.natAbs).length (numL z.natAbs)) => ofint_int z (by omega) A _ W hs)
  unfold intV at HF HO
  obtain ⟨L, HL⟩ : ∃ L, Hid ((numL z.natAbs).length = L) := ⟨_, Lib.hid rfl⟩
  obtain ⟨ng, HNG⟩ : ∃ ng, Hid (decide (z < 0) = ng) := ⟨_, Lib.hid rfl⟩
  rw [HL.out, HNG.out] at HF HO
  have hb : bits .andNot .i8 3 64 = 3 := by decide
  clear h1 h2
  have hfl := store_flt
  go_enter Tryz.func71, Tryz.ntmps71
  go_upto_region 1 with (fail)
  rw [HW0.out, HB4.out]
  go_wp2_with (first
    | (go_at_call 95; go_must (refine HF.out.mono ?_); rintro e w1 ⟨hk1, A', rfl, hs1, -⟩; have HK1 := Lib.hid hk1; have HS1 := Lib.hid hs1; clear hk1 hs1)
    | (go_at_call 91; go_must (refine (HO.out _ _ HS1.out).mono ?_); rintro e w2 ⟨hk2, r, rfl, ht2⟩; have HK2 := Lib.hid hk2; have HT2 := Lib.hid ht2; clear hk2 ht2; unfold ER; obtain ⟨v0, v1, v2, v3, v4, v5, v6, v7, v8, v9, ⟨d0, d1, d2, d3, d4, d5, d6, d7, d8, d9⟩, f0, f1, f2, f3, f4, f5, f6, f7, f8, f9⟩ := ten ((HT0.out.keep' HK1.out).keep' HK2.out)))
  obtain ⟨w3, e3, r3, k3⟩ := put10 ((HT0.out.keep' HK1.out).keep' HK2.out) ⟨r, 0, false⟩ (.int .i8 (r.kind : Int)) (.int .u64 (r.n : Int)) (.bool r.neg) (.slice r.mA r.mL r.mC) (.int .u64 (r.bits : Int)) (.int .i8 r.ext) (.string r.text) (.slice r.kA r.kL r.kC) (.float .f64 0) (.bool false) rfl
  rw [e3.out]
  have hl0 := HL0.out
  have hz1 := HK1.out.size
  refine ret_e rfl rfl rfl r3 ⟨((HK0.out.then_ HK1.out).then_ HK2.out).trans k3 (fun k h1 h2 => by omega), r, rfl, ?_⟩
  exact Tr.mono (fun k _ hk => by omega) _ _ (Tr.keep k3 (fun k hk e => by omega) _ _ HT2.out)
set_option maxRecDepth 100000 in
set_option maxHeartbeats 1000000 in
theorem one_72 (x : Nat) (z : Int) (h1 : -9223372036854775808 ≤ z) (h2 : z < 9223372036854775808) (i1 : IntKind.i64.wrap (x : Int) = z) (w : World) :
    Calls Tryz.prog 71 #[.int .i8 72, .int .u64 (x : Int)] w (OnePost w z) := by
  obtain ⟨w0, b4, HW0, HB4, HK0, HT0, HL0⟩ := start10 w
  have HF := Lib.hid (from_int z h1 h2 w0)
  have HO := Lib.hid (fun (W : World) (A : Option Addr) (hs : Sl EU W A (numL z.natAbs).length (numL z.natAbs)) => ofint_int z (by omega) A _ W hs)
  unfold intV at HF HO
  obtain ⟨L, HL⟩ : ∃ L, Hid ((numL z.natAbs).length = L) := ⟨_, Lib.hid rfl⟩
  obtain ⟨ng, HNG⟩ : ∃ ng, Hid (decide (z < 0) = ng) := ⟨_, Lib.hid rfl⟩
  rw [HL.out, HNG.out] at HF HO
  have hb : bits .andNot .i8 72 64 = 8 := by decide
  clear h1 h2
  have hfl := store_flt
  go_enter Tryz.func71, Tryz.ntmps71
  go_upto_region 1 with (fail)
  rw [HW0.out, HB4.out]
  go_wp2_with (first
    | (go_at_call 95; go_must (refine HF.out.mono ?_); rintro e w1 ⟨hk1, A', rfl, hs1, -⟩; have HK1 := Lib.hid hk1; have HS1 := Lib.hid hs1; clear hk1 hs1)
    | (go_at_call 91; go_must (refine (HO.out _ _ HS1.out).mono ?_); rintro e w2 ⟨hk2, r, rfl, ht2⟩; have HK2 := Lib.hid hk2; have HT2 := Lib.hid ht2; clear hk2 ht2; unfold ER; obtain ⟨v0, v1, v2, v3, v4, v5, v6, v7, v8, v9, ⟨d0, d1, d2, d3, d4, d5, d6, d7, d8, d9⟩, f0, f1, f2, f3, f4, f5, f6, f7, f8, f9⟩ := ten ((HT0.out.keep' HK1.out).keep' HK2.out)))
  obtain ⟨w3, e3, r3, k3⟩ := put10 ((HT0.out.keep' HK1.out).keep' HK2.out) ⟨r, 0, false⟩ (.int .i8 (r.kind : Int)) (.int .u64 (r.n : Int)) (.bool r.neg) (.slice r.mA r.mL r.mC) (.int .u64 (r.bits : Int)) (.int .i8 r.ext) (.string r.text) (.slice r.kA r.kL r.kC) (.float .f64 0) (.bool false) rfl
  rw [e3.out]
  have hl0 := HL0.out
  have hz1 := HK1.out.size
  refine ret_e rfl rfl rfl r3 ⟨((HK0.out.then_ HK1.out).then_ HK2.out).trans k3 (fun k h1 h2 => by omega), r, rfl, ?_⟩
  exact Tr.mono (fun k _ hk => by omega) _ _ (Tr.keep k3 (fun k hk e => by omega) _ _ HT2.out)
set_option maxRecDepth 100000 in
set_option maxHeartbeats 1000000 in
theorem one_8 (x : Nat) (z : Int) (h1 : -9223372036854775808 ≤ z) (h2 : z < 9223372036854775808) (i1 : IntKind.i64.wrap (x : Int) = z) (w : World) :
    Calls Tryz.prog 71 #[.int .i8 8, .int .u64 (x : Int)] w (OnePost w z) := by
  obtain ⟨w0, b4, HW0, HB4, HK0, HT0, HL0⟩ := start10 w
  have HF := Lib.hid (from_int z h1 h2 w0)
  have HO := Lib.hid (fun (W : World) (A : Option Addr) (hs : Sl EU W A (numL z.natAbs).length (numL z.natAbs)) => ofint_int z (by omega) A _ W hs)
  unfold intV at HF HO
  obtain ⟨L, HL⟩ : ∃ L, Hid ((numL z.natAbs).length = L) := ⟨_, Lib.hid rfl⟩
  obtain ⟨ng, HNG⟩ : ∃ ng, Hid (decide (z < 0) = ng) := ⟨_, Lib.hid rfl⟩
  rw [HL.out, HNG.out] at HF HO
  have hb : bits .andNot .i8 8 64 = 8 := by decide
  clear h1 h2
  have hfl := store_flt
  go_enter Tryz.func71, Tryz.ntmps71
  go_upto_region 1 with (fail)
  rw [HW0.out, HB4.out]
  go_wp2_with (first
    | (go_at_call 95; go_must (refine HF.out.mono ?_); rintro e w1 ⟨hk1, A', rfl, hs1, -⟩; have HK1 := Lib.hid hk1; have HS1 := Lib.hid hs1; clear hk1 hs1)
    | (go_at_call 91; go_must (refine (HO.out _ _ HS1.out).mono ?_); rintro e w2 ⟨hk2, r, rfl, ht2⟩; have HK2 := Lib.hid hk2; have HT2 := Lib.hid ht2; clear hk2 ht2; unfold ER; obtain ⟨v0, v1, v2, v3, v4, v5, v6, v7, v8, v9, ⟨d0, d1, d2, d3, d4, d5, d6, d7, d8, d9⟩, f0, f1, f2, f3, f4, f5, f6, f7, f8, f9⟩ := ten ((HT0.out.keep' HK1.out).keep' HK2.out)))
  obtain ⟨w3, e3, r3, k3⟩ := put10 ((HT0.out.keep' HK1.out).keep' HK2.out) ⟨r, 0, false⟩ (.int .i8 (r.kind : Int)) (.int .u64 (r.n : Int)) (.bool r.neg) (.slice r.mA r.mL r.mC) (.int .u64 (r.bits : Int)) (.int .i8 r.ext) (.string r.text) (.slice r.kA r.kL r.kC) (.float .f64 0) (.bool false) rfl
  rw [e3.out]
  have hl0 := HL0.out
  have hz1 := HK1.out.size
  refine ret_e rfl rfl rfl r3 ⟨((HK0.out.then_ HK1.out).then_ HK2.out).trans k3 (fun k h1 h2 => by omega), r, rfl, ?_⟩
  exact Tr.mono (fun k _ hk => by omega) _ _ (Tr.keep k3 (fun k hk e => by omega) _ _ HT2.out)
set_option maxRecDepth 100000 in
set_option maxHeartbeats 1000000 in
theorem one_5 (x : Nat) (z u : Int) (h1 : -9223372036854775808 ≤ z) (h2 : z < 9223372036854775808) (i1 : IntKind.i8.wrap (x : Int) = z) (i2 : IntKind.u64.wrap z = u) (i3 : IntKind.i64.wrap u = z) (w : World) :
    Calls Tryz.prog 71 #[.int .i8 5, .int .u64 (x : Int)] w (OnePost w z) := by
  obtain ⟨w0, b4, HW0, HB4, HK0, HT0, HL0⟩ := start10 w
  have HF := Lib.hid (from_int z h1 h2 w0)
  have HO := Lib.hid (fun (W : World) (A : Option Addr) (hs : Sl EU W A (numL z.natAbs).length (numL z.natAbs)) => ofint_int z (by omega) A _ W hs)
  unfold intV at HF HO
  obtain ⟨L, HL⟩ : ∃ L, Hid ((numL z.natAbs).length = L) := ⟨_, Lib.hid rfl⟩
  obtain ⟨ng, HNG⟩ : ∃ ng, Hid (decide (z < 0) = ng) := ⟨_, Lib.hid rfl⟩
  rw [HL.out, HNG.out] at HF HO
  have hb : bits .andNot .i8 5 64 = 5 := by decide
  clear h1 h2
  have hfl := store_flt
  go_enter Tryz.func71, Tryz.ntmps71
  go_upto_region 1 with (fail)
  rw [HW0.out, HB4.out]
  go_wp2_with (first
    | (go_at_call 95; go_must (refine HF.out.mono ?_); rintro e w1 ⟨hk1, A', rfl, hs1, -⟩; have HK1 := Lib.hid hk1; have HS1 := Lib.hid hs1; clear hk1 hs1)
    | (go_at_call 91; go_must (refine (HO.out _ _ HS1.out).mono ?_); rintro e w2 ⟨hk2, r, rfl, ht2⟩; have HK2 := Lib.hid hk2; have HT2 := Lib.hid ht2; clear hk2 ht2; unfold ER; obtain ⟨v0, v1, v2, v3, v4, v5, v6, v7, v8, v9, ⟨d0, d1, d2, d3, d4, d5, d6, d7, d8, d9⟩, f0, f1, f2, f3, f4, f5, f6, f7, f8, f9⟩ := ten ((HT0.out.keep' HK1.out).keep' HK2.out)))
  obtain ⟨w3, e3, r3, k3⟩ := put10 ((HT0.out.keep' HK1.out).keep' HK2.out) ⟨r, 0, false⟩ (.int .i8 (r.kind : Int)) (.int .u64 (r.n : Int)) (.bool r.neg) (.slice r.mA r.mL r.mC) (.int .u64 (r.bits : Int)) (.int .i8 r.ext) (.string r.text) (.slice r.kA r.kL r.kC) (.float .f64 0) (.bool false) rfl
  rw [e3.out]
  have hl0 := HL0.out
  have hz1 := HK1.out.size
  refine ret_e rfl rfl rfl r3 ⟨((HK0.out.then_ HK1.out).then_ HK2.out).trans k3 (fun k h1 h2 => by omega), r, rfl, ?_⟩
  exact Tr.mono (fun k _ hk => by omega) _ _ (Tr.keep k3 (fun k hk e => by omega) _ _ HT2.out)
set_option maxRecDepth 100000 in
set_option maxHeartbeats 1000000 in
theorem one_70 (x : Nat) (z u : Int) (h1 : -9223372036854775808 ≤ z) (h2 : z < 9223372036854775808) (i1 : IntKind.i16.wrap (x : Int) = z) (i2 : IntKind.u64.wrap z = u) (i3 : IntKind.i64.wrap u = z) (w : World) :
    Calls Tryz.prog 71 #[.int .i8 70, .int .u64 (x : Int)] w (OnePost w z) := by
  obtain ⟨w0, b4, HW0, HB4, HK0, HT0, HL0⟩ := start10 w
  have HF := Lib.hid (from_int z h1 h2 w0)
  have HO := Lib.hid (fun (W : World) (A : Option Addr) (hs : Sl EU W A (numL z.natAbs).length (numL z.natAbs)) => ofint_int z (by omega) A _ W hs)
  unfold intV at HF HO
  obtain ⟨L, HL⟩ : ∃ L, Hid ((numL z.natAbs).length = L) := ⟨_, Lib.hid rfl⟩
  obtain ⟨ng, HNG⟩ : ∃ ng, Hid (decide (z < 0) = ng) := ⟨_, Lib.hid rfl⟩
  rw [HL.out, HNG.out] at HF HO
  have hb : bits .andNot .i8 70 64 = 6 := by decide
  clear h1 h2
  have hfl := store_flt
  go_enter Tryz.func71, Tryz.ntmps71
  go_upto_region 1 with (fail)
  rw [HW0.out, HB4.out]
  go_wp2_with (first
    | (go_at_call 95; go_must (refine HF.out.mono ?_); rintro e w1 ⟨hk1, A', rfl, hs1, -⟩; have HK1 := Lib.hid hk1; have HS1 := Lib.hid hs1; clear hk1 hs1)
    | (go_at_call 91; go_must (refine (HO.out _ _ HS1.out).mono ?_); rintro e w2 ⟨hk2, r, rfl, ht2⟩; have HK2 := Lib.hid hk2; have HT2 := Lib.hid ht2; clear hk2 ht2; unfold ER; obtain ⟨v0, v1, v2, v3, v4, v5, v6, v7, v8, v9, ⟨d0, d1, d2, d3, d4, d5, d6, d7, d8, d9⟩, f0, f1, f2, f3, f4, f5, f6, f7, f8, f9⟩ := ten ((HT0.out.keep' HK1.out).keep' HK2.out)))
  obtain ⟨w3, e3, r3, k3⟩ := put10 ((HT0.out.keep' HK1.out).keep' HK2.out) ⟨r, 0, false⟩ (.int .i8 (r.kind : Int)) (.int .u64 (r.n : Int)) (.bool r.neg) (.slice r.mA r.mL r.mC) (.int .u64 (r.bits : Int)) (.int .i8 r.ext) (.string r.text) (.slice r.kA r.kL r.kC) (.float .f64 0) (.bool false) rfl
  rw [e3.out]
  have hl0 := HL0.out
  have hz1 := HK1.out.size
  refine ret_e rfl rfl rfl r3 ⟨((HK0.out.then_ HK1.out).then_ HK2.out).trans k3 (fun k h1 h2 => by omega), r, rfl, ?_⟩
  exact Tr.mono (fun k _ hk => by omega) _ _ (Tr.keep k3 (fun k hk e => by omega) _ _ HT2.out)
set_option maxRecDepth 100000 in
set_option maxHeartbeats 1000000 in
theorem one_6 (x : Nat) (z u : Int) (h1 : -9223372036854775808 ≤ z) (h2 : z < 9223372036854775808) (i1 : IntKind.i16.wrap (x : Int) = z) (i2 : IntKind.u64.wrap z = u) (i3 : IntKind.i64.wrap u = z) (w : World) :
    Calls Tryz.prog 71 #[.int .i8 6, .int .u64 (x : Int)] w (OnePost w z) := by
  obtain ⟨w0, b4, HW0, HB4, HK0, HT0, HL0⟩ := start10 w
  have HF := Lib.hid (from_int z h1 h2 w0)
  have HO := Lib.hid (fun (W : World) (A : Option Addr) (hs : Sl EU W A (numL z.natAbs).length (numL z.natAbs)) => ofint_int z (by omega) A _ W hs)
  unfold intV at HF HO
  obtain ⟨L, HL⟩ : ∃ L, Hid ((numL z.natAbs).length = L) := ⟨_, Lib.hid rfl⟩
  obtain ⟨ng, HNG⟩ : ∃ ng, Hid (decide (z < 0) = ng) := ⟨_, Lib.hid rfl⟩
  rw [HL.out, HNG.out] at HF HO
  have hb : bits .andNot .i8 6 64 = 6 := by decide
  clear h1 h2
  have hfl := store_flt
  go_enter Tryz.func71, Tryz.ntmps71
  go_upto_region 1 with (fail)
  rw [HW0.out, HB4.out]
  go_wp2_with (first
    | (go_at_call 95; go_must (refine HF.out.mono ?_); rintro e w1 ⟨hk1, A', rfl, hs1, -⟩; have HK1 := Lib.hid hk1; have HS1 := Lib.hid hs1; clear hk1 hs1)
    | (go_at_call 91; go_must (refine (HO.out _ _ HS1.out).mono ?_); rintro e w2 ⟨hk2, r, rfl, ht2⟩; have HK2 := Lib.hid hk2; have HT2 := Lib.hid ht2; clear hk2 ht2; unfold ER; obtain ⟨v0, v1, v2, v3, v4, v5, v6, v7, v8, v9, ⟨d0, d1, d2, d3, d4, d5, d6, d7, d8, d9⟩, f0, f1, f2, f3, f4, f5, f6, f7, f8, f9⟩ := ten ((HT0.out.keep' HK1.out).keep' HK2.out)))
  obtain ⟨w3, e3, r3, k3⟩ := put10 ((HT0.out.keep' HK1.out).keep' HK2.out) ⟨r, 0, false⟩ (.int .i8 (r.kind : Int)) (.int .u64 (r.n : Int)) (.bool r.neg) (.slice r.mA r.mL r.mC) (.int .u64 (r.bits : Int)) (.int .i8 r.ext) (.string r.text) (.slice r.kA r.kL r.kC) (.float .f64 0) (.bool false) rfl
  rw [e3.out]
  have hl0 := HL0.out
  have hz1 := HK1.out.size
  refine ret_e rfl rfl rfl r3 ⟨((HK0.out.then_ HK1.out).then_ HK2.out).trans k3 (fun k h1 h2 => by omega), r, rfl, ?_⟩
  exact Tr.mono (fun k _ hk => by omega) _ _ (Tr.keep k3 (fun k hk e => by omega) _ _ HT2.out)
set_option maxRecDepth 100000 in
set_option maxHeartbeats 1000000 in
theorem one_71 (x : Nat) (z u : Int) (h1 : -9223372036854775808 ≤ z) (h2 : z < 9223372036854775808) (i1 : IntKind.i32.wrap (x : Int) = z) (i2 : IntKind.u64.wrap z = u) (i3 : IntKind.i64.wrap u = z) (w : World) :
    Calls Tryz.prog 71 #[.int .i8 71, .int .u64 (x : Int)] w (OnePost w z) := by
  obtain ⟨w0, b4, HW0, HB4, HK0, HT0, HL0⟩ := start10 w
  have HF := Lib.hid (from_int z h1 h2 w0)
  have HO := Lib.hid (fun (W : World) (A : Option Addr) (hs : Sl EU W A (numL z.natAbs).length (numL z.natAbs)) => ofint_int z (by omega) A _ W hs)
  unfold intV at HF HO
  obtain ⟨L, HL⟩ : ∃ L, Hid ((numL z.natAbs).length = L) := ⟨_, Lib.hid rfl⟩
  obtain ⟨ng, HNG⟩ : ∃ ng, Hid (decide (z < 0) = ng) := ⟨_, Lib.hid rfl⟩
  rw [HL.out, HNG.out] at HF HO
  have hb : bits .andNot .i8 71 64 = 7 := by decide
  clear h1 h2
  have hfl := store_flt
  go_enter Tryz.func71, Tryz.ntmps71
  go_upto_region 1 with (fail)
  rw [HW0.out, HB4.out]
  go_wp2_with (first
    | (go_at_call 95; go_must (refine HF.out.mono ?_); rintro e w1 ⟨hk1, A', rfl, hs1, -⟩; have HK1 := Lib.hid hk1; have HS1 := Lib.hid hs1; clear hk1 hs1)
    | (go_at_call 91; go_must (refine (HO.out _ _ HS1.out).mono ?_); rintro e w2 ⟨hk2, r, rfl, ht2⟩; have HK2 := Lib.hid hk2; have HT2 := Lib.hid ht2; clear hk2 ht2; unfold ER; obtain ⟨v0, v1, v2, v3, v4, v5, v6, v7, v8, v9, ⟨d0, d1, d2, d3, d4, d5, d6, d7, d8, d9⟩, f0, f1, f2, f3, f4, f5, f6, f7, f8, f9⟩ := ten ((HT0.out.keep' HK1.out).keep' HK2.out)))
  obtain ⟨w3, e3, r3, k3⟩ := put10 ((HT0.out.keep' HK1.out).keep' HK2.out) ⟨r, 0, false⟩ (.int .i8 (r.kind : Int)) (.int .u64 (r.n : Int)) (.bool r.neg) (.slice r.mA r.mL r.mC) (.int .u64 (r.bits : Int)) (.int .i8 r.ext) (.string r.text) (.slice r.kA r.kL r.kC) (.float .f64 0) (.bool false) rfl
  rw [e3.out]
  have hl0 := HL0.out
  have hz1 := HK1.out.size
  refine ret_e rfl rfl rfl r3 ⟨((HK0.out.then_ HK1.out).then_ HK2.out).trans k3 (fun k h1 h2 => by omega), r, rfl, ?_⟩
  exact Tr.mono (fun k _ hk => by omega) _ _ (Tr.keep k3 (fun k hk e => by omega) _ _ HT2.out)
set_option maxRecDepth 100000 in
set_option maxHeartbeats 1000000 in
theorem one_7 (x : Nat) (z u : Int) (h1 : -9223372036854775808 ≤ z) (h2 : z < 9223372036854775808) (i1 : IntKind.i32.wrap (x : Int) = z) (i2 : IntKind.u64.wrap z = u) (i3 : IntKind.i64.wrap u = z) (w : World) :
    Calls Tryz.prog 71 #[.int .i8 7, .int .u64 (x : Int)] w (OnePost w z) := by
  obtain ⟨w0, b4, HW0, HB4, HK0, HT0, HL0⟩ := start10 w
  have HF := Lib.hid (from_int z h1 h2 w0)
  have HO := Lib.hid (fun (W : World) (A : Option Addr) (hs : Sl EU W A (numL z.natAbs).length (numL z.natAbs)) => ofint_int z (by omega) A _ W hs)
  unfold intV at HF HO
  obtain ⟨L, HL⟩ : ∃ L, Hid ((numL z.natAbs).length = L) := ⟨_, Lib.hid rfl⟩
  obtain ⟨ng, HNG⟩ : ∃ ng, Hid (decide (z < 0) = ng) := ⟨_, Lib.hid rfl⟩
  rw [HL.out, HNG.out] at HF HO
  have hb : bits .andNot .i8 7 64 = 7 := by decide
  clear h1 h2
  have hfl := store_flt
  go_enter Tryz.func71, Tryz.ntmps71
  go_upto_region 1 with (fail)
  rw [HW0.out, HB4.out]
  go_wp2_with (first
    | (go_at_call 95; go_must (refine HF.out.mono ?_); rintro e w1 ⟨hk1, A', rfl, hs1, -⟩; have HK1 := Lib.hid hk1; have HS1 := Lib.hid hs1; clear hk1 hs1)
    | (go_at_call 91; go_must (refine (HO.out _ _ HS1.out).mono ?_); rintro e w2 ⟨hk2, r, rfl, ht2⟩; have HK2 := Lib.hid hk2; have HT2 := Lib.hid ht2; clear hk2 ht2; unfold ER; obtain ⟨v0, v1, v2, v3, v4, v5, v6, v7, v8, v9, ⟨d0, d1, d2, d3, d4, d5, d6, d7, d8, d9⟩, f0, f1, f2, f3, f4, f5, f6, f7, f8, f9⟩ := ten ((HT0.out.keep' HK1.out).keep' HK2.out)))
  obtain ⟨w3, e3, r3, k3⟩ := put10 ((HT0.out.keep' HK1.out).keep' HK2.out) ⟨r, 0, false⟩ (.int .i8 (r.kind : Int)) (.int .u64 (r.n : Int)) (.bool r.neg) (.slice r.mA r.mL r.mC) (.int .u64 (r.bits : Int)) (.int .i8 r.ext) (.string r.text) (.slice r.kA r.kL r.kC) (.float .f64 0) (.bool false) rfl
  rw [e3.out]
  have hl0 := HL0.out
  have hz1 := HK1.out.size
  refine ret_e rfl rfl rfl r3 ⟨((HK0.out.then_ HK1.out).then_ HK2.out).trans k3 (fun k h1 h2 => by omega), r, rfl, ?_⟩
  exact Tr.mono (fun k _ hk => by omega) _ _ (Tr.keep k3 (fun k hk e => by omega) _ _ HT2.out)
set_option maxRecDepth 100000 in
set_option maxHeartbeats 1000000 in
theorem one_4 (x : Nat) (hx : x < 18446744073709551616) (w : World) :
    Calls Tryz.prog 71 #[.int .i8 4, .int .u64 (x : Int)] w (OnePost w (x : Int)) := by
  obtain ⟨w0, b4, HW0, HB4, HK0, HT0, HL0⟩ := start10 w
  have hs := two32_sl w0 x 82
  have hb : bits .andNot .i8 4 64 = 4 := by decide
  obtain ⟨t1, t2⟩ := two32_num hx
  have hlen : (cutL (two32 x)).length = cutN (two32 x) 2 := cutL_len _
  obtain ⟨lo, HLO⟩ : ∃ lo : Nat, Hid (x % 4294967296 = lo) := ⟨_, Lib.hid rfl⟩
  obtain ⟨hi, HHI⟩ : ∃ hi : Nat, Hid (x / 4294967296 = hi) := ⟨_, Lib.hid rfl⟩
  have i1 : IntKind.u32.wrap (x : Int) = (lo : Int) := by rw [IntKind.wrap_u32, ← HLO.out]; omega
  have i2 : (x : Int) / 4294967296 = (hi : Int) := by rw [← HHI.out]; omega
  have i3 : IntKind.u32.wrap (hi : Int) = (hi : Int) := by rw [IntKind.wrap_u32, ← HHI.out]; omega
  rw [HLO.out, HHI.out] at hs
  obtain ⟨wA, HWA⟩ : ∃ wA, Hid (w0.alloc (.cells #[.int .u32 (lo : Int), .int .u32 (hi : Int)] 82) = wA) := ⟨_, Lib.hid rfl⟩
  have HKA : Hid (Keep nob w0 wA) := by unfold Hid; rw [← HWA.out]; exact (Keep.refl _ _).alloc _
  rw [HWA.out] at hs
  obtain ⟨ba, HBA⟩ : ∃ ba, Hid (w0.heap.size = ba) := ⟨_, Lib.hid rfl⟩
  rw [HBA.out] at hs
  have HN := Lib.hid (fun (W : World) (hk : Keep nob wA W) => wNorm_ok false (some ⟨ba, 0, none⟩) 2 2 (two32 x) W rfl (hs.keep hk (fun ⟨_, _, h⟩ => h)) (by decide))
  have HV := whole_int hx
  unfold wholeV at HV
  obtain ⟨n, HNN⟩ : ∃ n, Hid (cutN (two32 x) 2 = n) := ⟨_, Lib.hid rfl⟩
  obtain ⟨l, HL⟩ : ∃ l, Hid (cutL (two32 x) = l) := ⟨_, Lib.hid rfl⟩
  obtain ⟨gg, HGG⟩ : ∃ gg, Hid (negN false n = gg) := ⟨_, Lib.hid rfl⟩
  rw [HNN.out, HL.out, HGG.out] at HV HN
  rw [HNN.out, HL.out] at hlen
  have hn2 : n ≤ 2 := by rw [← HNN.out]; exact cutN_le _ _
  have HO := Lib.hid (fun (A' : Option Addr) (w1 : World) (hs : Sl EU w1 A' n l) => OfInt_ok gg A' n n l w1 hlen hs (by omega))
  rw [HV] at HO
  unfold intV at HN HO
  clear hx t1 t2 hlen hn2 HV hs
  have hfl := store_flt
  go_enter Tryz.func71, Tryz.ntmps71
  go_upto_region 1 with (fail)
  rw [HW0.out, HB4.out]
  go_upto_region 10 with (fail)
  rw [HWA.out, HBA.out]
  have hza : wA.heap.size = ba + 1 := by rw [← HWA.out, ← HBA.out]; simp
  have hc0 := int_new0 wA false (some ⟨ba, 0, none⟩) 2 2 36
  have hc1 := int_new1 wA false (some ⟨ba, 0, none⟩) 2 2 36
  have HKB : Hid (Keep nob wA (wA.alloc (.cells #[.bool false, .slice (some ⟨ba, 0, none⟩) 2 2] 36))) := Lib.hid ((Keep.refl _ _).alloc _)
  obtain ⟨wB, HWB⟩ : ∃ wB, Hid (wA.alloc (.cells #[.bool false, .slice (some ⟨ba, 0, none⟩) 2 2] 36) = wB) := ⟨_, Lib.hid rfl⟩
  rw [hza] at hc0 hc1
  rw [HWB.out] at hc0 hc1 HKB ⊢
  clear hza
  have HK0B := Lib.hid (HKA.out.then_ HKB.out)
  go_wp2_with (first
    | (go_at_call 92; go_must (refine (HN.out _ HKB.out).mono ?_); rintro e w1 ⟨hk1, A', rfl, hs1, -⟩; have HK1 := Lib.hid (HK0B.out.then_ hk1); have HS1 := Lib.hid hs1; clear hk1 hs1)
    | (go_at_call 91; go_must (refine (HO.out _ _ HS1.out).mono ?_); rintro e w2 ⟨hk2, r, rfl, ht2⟩; have HK2 := Lib.hid hk2; have HT2 := Lib.hid ht2; clear hk2 ht2; unfold ER; obtain ⟨v0, v1, v2, v3, v4, v5, v6, v7, v8, v9, ⟨d0, d1, d2, d3, d4, d5, d6, d7, d8, d9⟩, f0, f1, f2, f3, f4, f5, f6, f7, f8, f9⟩ := ten ((HT0.out.keep' HK1.out).keep' HK2.out)))
  obtain ⟨w3, e3, r3, k3⟩ := put10 ((HT0.out.keep' HK1.out).keep' HK2.out) ⟨r, 0, false⟩ (.int .i8 (r.kind : Int)) (.int .u64 (r.n : Int)) (.bool r.neg) (.slice r.mA r.mL r.mC) (.int .u64 (r.bits : Int)) (.int .i8 r.ext) (.string r.text) (.slice r.kA r.kL r.kC) (.float .f64 0) (.bool false) rfl
  rw [e3.out]
  have hl0 := HL0.out
  have hz1 := HK1.out.size
  refine ret_e rfl rfl rfl r3 ⟨((HK0.out.then_ HK1.out).then_ HK2.out).trans k3 (fun k h1 h2 => by omega), r, rfl, ?_⟩
  exact Tr.mono (fun k _ hk => by omega) _ _ (Tr.keep k3 (fun k hk e => by omega) _ _ HT2.out)
set_option maxRecDepth 100000 in
set_option maxHeartbeats 1000000 in
theorem one_68 (x : Nat) (hx : x < 18446744073709551616) (w : World) :
    Calls Tryz.prog 71 #[.int .i8 68, .int .u64 (x : Int)] w (OnePost w (x : Int)) := by
  obtain ⟨w0, b4, HW0, HB4, HK0, HT0, HL0⟩ := start10 w
  have hs := two32_sl w0 x 82
  have hb : bits .andNot .i8 68 64 = 4 := by decide
  obtain ⟨t1, t2⟩ := two32_num hx
  have hlen : (cutL (two32 x)).length = cutN (two32 x) 2 := cutL_len _
  obtain ⟨lo, HLO⟩ : ∃ lo : Nat, Hid (x % 4294967296 = lo) := ⟨_, Lib.hid rfl⟩
  obtain ⟨hi, HHI⟩ : ∃ hi : Nat, Hid (x / 4294967296 = hi) := ⟨_, Lib.hid rfl⟩
  have i1 : IntKind.u32.wrap (x : Int) = (lo : Int) := by rw [IntKind.wrap_u32, ← HLO.out]; omega
  have i2 : (x : Int) / 4294967296 = (hi : Int) := by rw [← HHI.out]; omega
  have i3 : IntKind.u32.wrap (hi : Int) = (hi : Int) := by rw [IntKind.wrap_u32, ← HHI.out]; omega
  rw [HLO.out, HHI.out] at hs
  obtain ⟨wA, HWA⟩ : ∃ wA, Hid (w0.alloc (.cells #[.int .u32 (lo : Int), .int .u32 (hi : Int)] 82) = wA) := ⟨_, Lib.hid rfl⟩
  have HKA : Hid (Keep nob w0 wA) := by unfold Hid; rw [← HWA.out]; exact (Keep.refl _ _).alloc _
  rw [HWA.out] at hs
  obtain ⟨ba, HBA⟩ : ∃ ba, Hid (w0.heap.size = ba) := ⟨_, Lib.hid rfl⟩
  rw [HBA.out] at hs
  have HN := Lib.hid (fun (W : World) (hk : Keep nob wA W) => wNorm_ok false (some ⟨ba, 0, none⟩) 2 2 (two32 x) W rfl (hs.keep hk (fun ⟨_, _, h⟩ => h)) (by decide))
  have HV := whole_int hx
  unfold wholeV at HV
  obtain ⟨n, HNN⟩ : ∃ n, Hid (cutN (two32 x) 2 = n) := ⟨_, Lib.hid rfl⟩
  obtain ⟨l, HL⟩ : ∃ l, Hid (cutL (two32 x) = l) := ⟨_, Lib.hid rfl⟩
  obtain ⟨gg, HGG⟩ : ∃ gg, Hid (negN false n = gg) := ⟨_, Lib.hid rfl⟩
  rw [HNN.out, HL.out, HGG.out] at HV HN
  rw [HNN.out, HL.out] at hlen
  have hn2 : n ≤ 2 := by rw [← HNN.out]; exact cutN_le _ _
  have HO := Lib.hid (fun (A' : Option Addr) (w1 : World) (hs : Sl EU w1 A' n l) => OfInt_ok gg A' n n l w1 hlen hs (by omega))
  rw [HV] at HO
  unfold intV at HN HO
  clear hx t1 t2 hlen hn2 HV hs
  have hfl := store_flt
  go_enter Tryz.func71, Tryz.ntmps71
  go_upto_region 1 with (fail)
  rw [HW0.out, HB4.out]
  go_upto_region 10 with (fail)
  rw [HWA.out, HBA.out]
  have hza : wA.heap.size = ba + 1 := by rw [← HWA.out, ← HBA.out]; simp
  have hc0 := int_new0 wA false (some ⟨ba, 0, none⟩) 2 2 36
  have hc1 := int_new1 wA false (some ⟨ba, 0, none⟩) 2 2 36
  have HKB : Hid (Keep nob wA (wA.alloc (.cells #[.bool false, .slice (some ⟨ba, 0, none⟩) 2 2] 36))) := Lib.hid ((Keep.refl _ _).alloc _)
  obtain ⟨wB, HWB⟩ : ∃ wB, Hid (wA.alloc (.cells #[.bool false, .slice (some ⟨ba, 0, none⟩) 2 2] 36) = wB) := ⟨_, Lib.hid rfl⟩
  rw [hza] at hc0 hc1
  rw [HWB.out] at hc0 hc1 HKB ⊢
  clear hza
  have HK0B := Lib.hid (HKA.out.then_ HKB.out)
  go_wp2_with (first
    | (go_at_call 92; go_must (refine (HN.out _ HKB.out).mono ?_); rintro e w1 ⟨hk1, A', rfl, hs1, -⟩; have HK1 := Lib.hid (HK0B.out.then_ hk1); have HS1 := Lib.hid hs1; clear hk1 hs1)
    | (go_at_call 91; go_must (refine (HO.out _ _ HS1.out).mono ?_); rintro e w2 ⟨hk2, r, rfl, ht2⟩; have HK2 := Lib.hid hk2; have HT2 := Lib.hid ht2; clear hk2 ht2; unfold ER; obtain ⟨v0, v1, v2, v3, v4, v5, v6, v7, v8, v9, ⟨d0, d1, d2, d3, d4, d5, d6, d7, d8, d9⟩, f0, f1, f2, f3, f4, f5, f6, f7, f8, f9⟩ := ten ((HT0.out.keep' HK1.out).keep' HK2.out)))
  obtain ⟨w3, e3, r3, k3⟩ := put10 ((HT0.out.keep' HK1.out).keep' HK2.out) ⟨r, 0, false⟩ (.int .i8 (r.kind : Int)) (.int .u64 (r.n : Int)) (.bool r.neg) (.slice r.mA r.mL r.mC) (.int .u64 (r.bits : Int)) (.int .i8 r.ext) (.string r.text) (.slice r.kA r.kL r.kC) (.float .f64 0) (.bool false) rfl
  rw [e3.out]
  have hl0 := HL0.out
  have hz1 := HK1.out.size
  refine ret_e rfl rfl rfl r3 ⟨((HK0.out.then_ HK1.out).then_ HK2.out).trans k3 (fun k h1 h2 => by omega), r, rfl, ?_⟩
  exact Tr.mono (fun k _ hk => by omega) _ _ (Tr.keep k3 (fun k hk e => by omega) _ _ HT2.out)
/-- what one answers, of any kind of whole numbers -/
theorem one_ok (k : Nat) (small : Bool) (h1 : 1 ≤ k) (h8 : k ≤ 8) (x : Nat) (hx : x < 256 ^ nK k) (w : World) : Calls Tryz.prog 71 #[.int .i8 (eK small k : Nat), .int .u64 (x : Int)] w (OnePost w (valN (sgK k) (nK k) x)) := by
  have hv : ∀ (s : Bool) (n : Nat) (z : Int), valN s n x = z → OnePost w (valN s n x) = OnePost w z := fun s n z e => by rw [e]
  have hk : k = 1 ∨ k = 2 ∨ k = 3 ∨ k = 4 ∨ k = 5 ∨ k = 6 ∨ k = 7 ∨ k = 8 := by omega
  have hxx : x < 18446744073709551616 := Nat.lt_of_lt_of_le hx (Nat.le_trans (Nat.pow_le_pow_right (by decide) (nK_pos k).2) (by decide))
  rcases hk with rfl | rfl | rfl | rfl | rfl | rfl | rfl | rfl
  · have hx1 : x < 256 := hx
    rw [hv _ _ (x : Int) (by simp [valN, sgK])]
    have i1 : IntKind.i64.wrap (x : Int) = (x : Int) := by rw [IntWalk.i64_left, IntWalk.wrap64_in _ ⟨by omega, by omega⟩]
    cases small
    · exact one_1 x _ (by omega) (by omega) i1 w
    · exact one_1 x _ (by omega) (by omega) i1 w
  · have hx1 : x < 65536 := hx
    rw [hv _ _ (x : Int) (by simp [valN, sgK])]
    have i1 : IntKind.i64.wrap (x : Int) = (x : Int) := by rw [IntWalk.i64_left, IntWalk.wrap64_in _ ⟨by omega, by omega⟩]
    cases small
    · exact one_2 x _ (by omega) (by omega) i1 w
    · exact one_66 x _ (by omega) (by omega) i1 w
  · have hx1 : x < 4294967296 := hx
    rw [hv _ _ (x : Int) (by simp [valN, sgK])]
    have i1 : IntKind.i64.wrap (x : Int) = (x : Int) := by rw [IntWalk.i64_left, IntWalk.wrap64_in _ ⟨by omega, by omega⟩]
    cases small
    · exact one_3 x _ (by omega) (by omega) i1 w
    · exact one_67 x _ (by omega) (by omega) i1 w
  · rw [hv _ _ (x : Int) (by simp [valN, sgK])]
    cases small
    · exact one_4 x hxx w
    · exact one_68 x hxx w
  · have hx1 : x < 256 := hx
    have i1 : IntKind.i8.wrap (x : Int) = valN true 1 x := by rw [wrap_i8']; unfold valN; simp only [true_and]; split <;> omega
    have hb : -128 ≤ valN true 1 x ∧ valN true 1 x < 128 := by rw [← i1, wrap_i8']; omega
    have i3 : IntKind.i64.wrap (IntKind.u64.wrap (valN true 1 x)) = valN true 1 x := by rw [IntKind.wrap_u64, IntKind.wrap_i64]; omega
    cases small
    · exact one_5 x _ _ (by omega) (by omega) i1 rfl i3 w
    · exact one_5 x _ _ (by omega) (by omega) i1 rfl i3 w
  · have hx1 : x < 65536 := hx
    have i1 : IntKind.i16.wrap (x : Int) = valN true 2 x := by rw [wrap_i16']; unfold valN; simp only [true_and]; split <;> omega
    have hb : -32768 ≤ valN true 2 x ∧ valN true 2 x < 32768 := by rw [← i1, wrap_i16']; omega
    have i3 : IntKind.i64.wrap (IntKind.u64.wrap (valN true 2 x)) = valN true 2 x := by rw [IntKind.wrap_u64, IntKind.wrap_i64]; omega
    cases small
    · exact one_6 x _ _ (by omega) (by omega) i1 rfl i3 w
    · exact one_70 x _ _ (by omega) (by omega) i1 rfl i3 w
  · have hx1 : x < 4294967296 := hx
    have i1 : IntKind.i32.wrap (x : Int) = valN true 4 x := by rw [IntKind.wrap_i32]; unfold valN; simp only [true_and]; split <;> omega
    have hb : -2147483648 ≤ valN true 4 x ∧ valN true 4 x < 2147483648 := by rw [← i1, IntKind.wrap_i32]; omega
    have i3 : IntKind.i64.wrap (IntKind.u64.wrap (valN true 4 x)) = valN true 4 x := by rw [IntKind.wrap_u64, IntKind.wrap_i64]; omega
    cases small
    · exact one_7 x _ _ (by omega) (by omega) i1 rfl i3 w
    · exact one_71 x _ _ (by omega) (by omega) i1 rfl i3 w
  · have i1 : IntKind.i64.wrap (x : Int) = valN true 8 x := by rw [IntKind.wrap_i64]; unfold valN; simp only [true_and]; split <;> omega
    have hb : -9223372036854775808 ≤ valN true 8 x ∧ valN true 8 x < 9223372036854775808 := by rw [← i1, IntKind.wrap_i64]; omega
    cases small
    · exact one_8 x _ hb.1 hb.2 i1 w
    · exact one_72 x _ hb.1 hb.2 i1 w
end Go.Proofs.YticnefkdkkjgcaaGreatDoor

/- A slice of elements while it grows. -/
namespace Go.Proofs.YticnefkdkkjgcaaGreatDoor
open Go.RowKit

theorem infoElem : (Tryz.prog.info? 94).map (fun i => (i.zero, i.size, i.bytes)) = some (some (.agg #[.int .i8 0, .int .u64 0, .bool false, .slice none 0 0, .int .u64 0, .int .i8 0, .string ⟨#[]⟩, .slice none 0 0, .float .f64 0, .bool false]), 10, 120) := by kernel_rfl
def V.kd : V → Nat
  | .mk k .. => k
/-- is it no number? -/
def wrV (v : V) : Bool := v.kd != 3 && v.kd != 4
theorem Tr.kd {W : World} {D : Nat → Prop} {r : Raw} {v : V} (h : Tr W D r v) : r.kind = v.kd := by
  cases v
  exact h.1
/-- elements that are values -/
structure EL (W : World) (D : Nat → Prop) (es : List Elm) (vs : List V) : Prop where
  tr : TrL W D (es.map (·.r)) vs
  x0 : ∀ e ∈ es, e.x = 0
  wr : es.map (·.wrong) = vs.map wrV
theorem EL.keep {W W' : World} {S D : Nat → Prop} {es : List Elm} {vs : List V} (h : EL W D es vs) (k : Keep S W W') (hs : ∀ b, D b → ¬ S b) : EL W' D es vs := ⟨TrL.keep k hs _ _ h.tr, h.x0, h.wr⟩
theorem EL.mono {W : World} {D D' : Nat → Prop} {es : List Elm} {vs : List V} (h : EL W D es vs) (hd : ∀ b, b < W.heap.size → D b → D' b) : EL W D' es vs := ⟨TrL.mono hd _ _ h.tr, h.x0, h.wr⟩
theorem EL.nil (W : World) (D : Nat → Prop) : EL W D [] [] := ⟨trivial, fun _ h => (by cases h), rfl⟩
theorem EL.len {W : World} {D : Nat → Prop} {es : List Elm} {vs : List V} (h : EL W D es vs) : es.length = vs.length := by have := h.tr.len; rwa [List.length_map] at this
theorem EL.snoc {W : World} {D : Nat → Prop} {es : List Elm} {vs : List V} {e : Elm} {v : V} (h : EL W D es vs) (ht : Tr W D e.r v) (hx : e.x = 0) (hw : e.wrong = wrV v) : EL W D (es ++ [e]) (vs ++ [v]) := by
  refine ⟨?_, fun y hy => ?_, ?_⟩
  · rw [List.map_append]
    exact TrL.app h.tr ⟨ht, trivial⟩
  · rcases List.mem_append.1 hy with hy | hy
    · exact h.x0 y hy
    · rw [List.mem_singleton.1 hy]; exact hx
  · rw [List.map_append, List.map_append, h.wr, List.map_singleton, List.map_singleton, hw]
theorem EL.get {W : World} {D : Nat → Prop} {es : List Elm} {vs : List V} (h : EL W D es vs) (i : Nat) (h1 : i < es.length) (h2 : i < vs.length) : Tr W D es[i].r vs[i] ∧ es[i].x = 0 ∧ es[i].wrong = wrV vs[i] := by
  refine ⟨?_, h.x0 _ (List.getElem_mem h1), ?_⟩
  · have := h.tr.get i (by rw [List.length_map]; exact h1) h2
    rwa [List.getElem_map] at this
  · have := congrArg (·[i]?) h.wr
    simp only [List.getElem?_map, List.getElem?_eq_getElem h1, List.getElem?_eq_getElem h2, Option.map_some, Option.some.injEq] at this
    exact this
/-- old blocks below m, or new ones that are not the slice's -/
def DelO (m : Nat) (Do : Nat → Prop) (A : Option Addr) : Nat → Prop := fun j => (Do j ∧ j < m) ∨ (m ≤ j ∧ ¬ AtB A j)
structure GrowE (wr : World) (m : Nat) (Do : Nat → Prop) (A : Option Addr) (c : Nat) (es : List Elm) (vs : List V) : Prop where
  ow : Ow EE wr A c es
  at_ : ∀ a, A = some a → m ≤ a.block
  lt : ∀ a, A = some a → a.block < wr.heap.size
  el : EL wr (DelO m Do A) es vs
theorem GrowE.nil (wr : World) (m : Nat) (Do : Nat → Prop) : GrowE wr m Do none 0 [] [] :=
  ⟨⟨Sl.nil_ EE wr none (by decide), fun h => absurd h (by decide)⟩, fun _ ha => (by cases ha), fun _ ha => (by cases ha), EL.nil _ _⟩
theorem GrowE.keep {wr w' : World} {m : Nat} {Do : Nat → Prop} {A : Option Addr} {c : Nat} {es : List Elm} {vs : List V} (h : GrowE wr m Do A c es vs) (k : Keep nob wr w') : GrowE w' m Do A c es vs :=
  ⟨h.ow.keep k (fun ⟨_, _, h⟩ => h), h.at_, fun a ha => Nat.lt_of_lt_of_le (h.lt a ha) k.size, h.el.keep k (fun _ _ h => h)⟩
/-- one element more behind the others -/
theorem GrowE.push {w5 w6 : World} {m : Nat} {Do Dv : Nat → Prop} {A A' : Option Addr} {c c' : Nat} {es : List Elm} {vs : List V} {e : Elm} {v : V} (h : GrowE w5 m Do A c es vs) (hap : Appended EE w5 A (es ++ [e]) A' c' w6) (hm : m ≤ w5.heap.size)
    (ht : Tr w5 Dv e.r v) (hx : e.x = 0) (hw : e.wrong = wrV v) (hD : ∀ j, j < w5.heap.size → Dv j → DelO m Do A j) : GrowE w6 m Do A' c' (es ++ [e]) (vs ++ [v]) := by
  have hA' : ∀ a, A' = some a → m ≤ a.block := fun a ha => by
    rcases hap.lies a ha with ⟨a0, h0, h1⟩ | ⟨h1, _⟩
    · have := h.at_ a0 h0; omega
    · omega
  have hdel : ∀ j, j < w5.heap.size → DelO m Do A j → ¬ AtB A j ∧ DelO m Do A' j := fun j hj hd => by
    rcases hd with hd | hd
    · exact ⟨fun ⟨a, ha, hb⟩ => by have := h.at_ a ha; omega, .inl hd⟩
    · refine ⟨hd.2, .inr ⟨hd.1, fun ⟨a, ha, hb⟩ => ?_⟩⟩
      rcases hap.lies a ha with ⟨a0, h0, h1⟩ | ⟨h1, _⟩
      · exact hd.2 ⟨a0, h0, by omega⟩
      · omega
  have t1 : EL w5 (fun j => ¬ AtB A j ∧ DelO m Do A' j) es vs := h.el.mono hdel
  have t2 : Tr w5 (fun j => ¬ AtB A j ∧ DelO m Do A' j) e.r v := Tr.mono (fun j hj hd => hdel j hj (hD j hj hd)) _ _ ht
  refine ⟨hap.ow, hA', fun a ha => ?_, ((t1.snoc t2 hx hw).keep hap.keep (fun j hd => hd.1)).mono (fun _ _ hd => hd.2)⟩
  rcases hap.lies a ha with ⟨a0, h0, h1⟩ | ⟨h1, h2⟩
  · have := h.lt a0 h0; have := hap.keep.size; omega
  · omega
/-- an append to the slice keeps what was there ahead of it -/
theorem GrowE.kept {w0 w5 w6 : World} {m : Nat} {Do : Nat → Prop} {A A' : Option Addr} {c c' : Nat} {es zs : List Elm} {vs : List V} (h : GrowE w5 m Do A c es vs) (hap : Appended EE w5 A zs A' c' w6) (h0 : w0.heap.size ≤ m) (k : Keep nob w0 w5) : Keep nob w0 w6 :=
  k.trans hap.keep (fun j hj ⟨a, ha, hb⟩ => by have := h.at_ a ha; omega)
/-- a slice's new element -/
theorem one_slE (w : World) (e : Elm) (T : TypeId) : Sl EE (w.alloc (.cells (EE.cells e).toArray T)) (some ⟨w.heap.size, 0, none⟩) 1 [e] :=
  ⟨Nat.le_refl _, by decide, fun _ => ⟨_, _, rfl, range_alloc_new w _ T _ (fun j v hj => by simpa [El.flat_cons, El.flat_nil] using hj)⟩⟩
/-- what elements answers: values, in a new slice; their trees in old blocks of Do or new ones -/
def ElsPost (w : World) (Do : Nat → Prop) (vs : List V) (E : Ending) (w' : World) : Prop :=
  Keep nob w w' ∧ ∃ A c es, E = .returned (.tuple #[.slice A vs.length c, .bool true]) ∧ Sl EE w' A c es ∧ (∀ a, A = some a → w.heap.size ≤ a.block) ∧ EL w' (fun j => (Do j ∧ j < w.heap.size) ∨ w.heap.size ≤ j) es vs
end Go.Proofs.YticnefkdkkjgcaaGreatDoor

/- typed.elements of a list. -/
namespace Go.Proofs.YticnefkdkkjgcaaGreatDoor
open Go.RowKit

set_option maxRecDepth 100000 in
set_option maxHeartbeats 1000000 in
theorem elements_list (n0 : Nat) (neg0 : Bool) (mag0 : List Nat) (bits0 : Nat) (ext0 : Int) (text0 : ByteArray) (vs : List V) (hv : vs.length ≤ 1000000000) (r : Raw) (D : Nat → Prop) (w : World) (ht : Tr w D r (.mk 7 n0 neg0 mag0 bits0 ext0 text0 vs)) (hD : ∀ b, D b → b < w.heap.size) :
    Calls Tryz.prog 39 #[ER.val r, .bool true] w (ElsPost w D vs) := by
  obtain ⟨h1, -, -, -, -, -, -, rs, hkl, hsl, -, htl⟩ := ht
  obtain ⟨n, HN⟩ : ∃ n, Hid (rs.length = n) := ⟨_, Lib.hid rfl⟩
  have HNV : Hid (vs.length = n) := Lib.hid (by rw [← htl.len, HN.out])
  have hn : n ≤ 1000000000 := by rw [← HNV.out]; exact hv
  rw [HN.out] at hkl
  have HRN := Lib.hid (range_new w r 39)
  have HKA : Hid (Keep nob w (w.alloc (.cells (ER.cells r).toArray 39))) := Lib.hid ((Keep.refl _ _).alloc _)
  obtain ⟨x0, HX0⟩ : ∃ x0, Hid (w.alloc (.cells (ER.cells r).toArray 39) = x0) := ⟨_, Lib.hid rfl⟩
  obtain ⟨b0, HB0⟩ : ∃ b0, Hid (w.heap.size = b0) := ⟨_, Lib.hid rfl⟩
  have HZ0 : Hid (x0.heap.size = b0 + 1) := by unfold Hid; rw [← HX0.out, ← HB0.out]; simp
  rw [HX0.out, HB0.out] at HRN
  rw [HX0.out] at HKA
  obtain ⟨rk, rn, rneg, rA, rL, rC, rbits, rext, rtext, rkA, rkL, rkC⟩ := r
  dsimp only at h1 hkl hsl
  subst h1 hkl
  simp only [ER, Int.cast_ofNat_Int]
  have HX : Hid (w.alloc (.cells #[.int .i8 7, .int .u64 (rn : Int), .bool rneg, .slice rA rL rC, .int .u64 (rbits : Int), .int .i8 rext, .string rtext, .slice rkA rkL rkC] 39) = x0) := HX0
  obtain ⟨a0, a1, a2, a3, a4, a5, a6, a7⟩ := cells_val HRN.out
  simp only [Int.cast_ofNat_Int] at a0 a7
  have hle := hsl.le
  have hcap := hsl.cap
  rw [HN.out] at hle
  have HSL := Lib.hid (hsl.keep HKA.out (fun ⟨_, _, h⟩ => h))
  have HTL := Lib.hid (TrL.keep HKA.out (nobD D) _ _ htl)
  have HD := Lib.hid hD
  clear HX0 hsl htl hv hD
  go_enter Tryz.func39, Tryz.ntmps39
  go_upto_region 1 with (fail)
  rw [HX.out, HB0.out]
  go_wp2_with (fail)
  go_loopw [6, 25] (fun u6 u25 wr => ∃ (i c : Nat) (A : Option Addr) (es : List Elm), i ≤ rkL ∧ u25 = .int .i64 (i : Int) ∧ u6 = .slice A i c ∧ Hid (es.length = i) ∧ Hid (GrowE wr x0.heap.size D A c es (vs.take i)) ∧ Hid (Keep nob x0 wr)) (fun _ u25 _ => rkL - (intOf u25).toNat)
  case atStart => exact ⟨0, 0, none, [], Nat.zero_le _, rfl, rfl, Lib.hid rfl, Lib.hid (GrowE.nil _ _ _), Lib.hid (Keep.refl _ _)⟩
  case round =>
    obtain ⟨i, c, A, es, hi, rfl, rfl, HEL, HGW, HK⟩ := hrel
    rcases Nat.lt_or_ge i rkL with hlt | hge
    · have d1 : decide ((i : Int) < (rkL : Int)) = true := by rw [decide_eq_true_iff]; omega
      have q0 : (0 : Int) ≤ (i : Int) := by omega
      have q1 : (i : Int) < (rkL : Int) := by omega
      have j5 : IntKind.i64.wrap ((i : Int) + 1) = (i : Int) + 1 := by rw [IntWalk.i64_left, IntWalk.wrap64_in _ ⟨by omega, by omega⟩]
      have hil : i < rs.length := by rw [HN.out]; exact hlt
      have hvl : i < vs.length := by rw [HNV.out]; exact hlt
      obtain ⟨bk, ok, rfl, hx⟩ := (HSL.out.keep HK.out (fun ⟨_, _, h⟩ => h)).elem (i := i) hil
      obtain ⟨rr, HR⟩ : ∃ rr, Hid (rs[i] = rr) := ⟨_, Lib.hid rfl⟩
      rw [HR.out] at hx
      have hx1 : wr.rangeAt bk (ok + i * 8) (ER.cells rr) := hx
      obtain ⟨e0, e1, e2, e3, e4, e5, e6, e7⟩ := cells_val0 hx1
      have HTR : Hid (Tr wr D rr vs[i]) := Lib.hid (by rw [← HR.out]; exact Tr.keep HK.out (nobD D) _ _ (HTL.out.get i hil hvl))
      have HTK : Hid (vs.take (i + 1) = vs.take i ++ [vs[i]]) := Lib.hid (List.take_succ_eq_append_getElem hvl)
      clear hx hx1
      go_upto_region 6 with (fail)
      obtain ⟨w4, HW4⟩ : ∃ w4, Hid (wr.alloc (.cells (ER.cells rr).toArray 39) = w4) := ⟨_, Lib.hid rfl⟩
      obtain ⟨b8, HB8⟩ : ∃ b8, Hid (wr.heap.size = b8) := ⟨_, Lib.hid rfl⟩
      have HK4 : Hid (Keep nob wr w4) := by unfold Hid; rw [← HW4.out]; exact (Keep.refl _ _).alloc _
      have hrn := range_new wr rr 39
      rw [HW4.out, HB8.out] at hrn
      rw [show wr.alloc (.cells #[.int .i8 (rr.kind : Int), .int .u64 (rr.n : Int), .bool rr.neg, .slice rr.mA rr.mL rr.mC, .int .u64 (rr.bits : Int), .int .i8 rr.ext, .string rr.text, .slice rr.kA rr.kL rr.kC] 39) = w4 from HW4.out, HB8.out]
      clear e0 e1 e2 e3 e4 e5 e6 e7
      obtain ⟨e0, e1, e2, e3, e4, e5, e6, e7⟩ := cells_val hrn
      obtain ⟨b3, h3⟩ : ∃ b3, ((rr.kind : Int) != 3) = b3 := ⟨_, rfl⟩
      obtain ⟨b4, h4⟩ : ∃ b4, ((rr.kind : Int) != 4) = b4 := ⟨_, rfl⟩
      have HWR : Hid ((b3 && b4) = wrV vs[i]) := by
        refine Lib.hid ?_
        have hk := HTR.out.kd
        unfold wrV
        rw [← h3, ← h4, ← hk]
        rw [Bool.eq_iff_iff]
        simp
        omega
      have HSL5 := Lib.hid (one_slE w4 ⟨rr, 0, b3 && b4⟩ 94)
      have HK5 : Hid (Keep nob w4 (w4.alloc (.cells (EE.cells ⟨rr, 0, b3 && b4⟩).toArray 94))) := Lib.hid ((Keep.refl _ _).alloc _)
      have HG5 := Lib.hid ((HGW.out.keep HK4.out).keep HK5.out)
      have HT5 := Lib.hid (Tr.keep (HK4.out.then_ HK5.out) (nobD D) _ _ HTR.out)
      have hes := HEL.out
      have HM5 : Hid (x0.heap.size ≤ (w4.alloc (.cells (EE.cells ⟨rr, 0, b3 && b4⟩).toArray 94)).heap.size) := Lib.hid (Nat.le_trans (Nat.le_trans HK.out.size HK4.out.size) HK5.out.size)
      have HKW := Lib.hid ((HK.out.then_ HK4.out).then_ HK5.out)
      clear hes
      cases b3
      all_goals
        simp only [Bool.false_and, Bool.true_and] at HSL5 HK5 HG5 HT5 HM5 HKW HWR
        go_wp2_with (at_builtin; refine wpList_append_ow EE rfl _ _ 90 rfl 94 _ 120 Tryz.underlying90 infoElem rfl A i c rfl es HEL.out HG5.out.ow (some ⟨w4.heap.size, 0, none⟩) 1 1 rfl [_] rfl HSL5.out (by omega) (by omega) ?_; intro A' c' w6 hap; have HAP := Lib.hid hap; clear hap)
        have hpush := HG5.out.push HAP.out HM5.out HT5.out rfl HWR.out (fun j _ hd => .inl ⟨hd, by have := HD.out j hd; have := HZ0.out; have := HB0.out; omega⟩)
        rw [← HTK.out] at hpush
        exact ⟨⟨i + 1, c', A', _, hlt, rfl, rfl, Lib.hid (by rw [List.length_append, HEL.out]; rfl), Lib.hid hpush, Lib.hid (HG5.out.kept HAP.out (Nat.le_refl _) HKW.out)⟩, by simp [intOf]; omega⟩
    · obtain rfl : i = rkL := by omega
      have d1 : decide ((i : Int) < (i : Int)) = false := by rw [decide_eq_false_iff_not]; omega
      have htk : vs.take i = vs := List.take_of_length_le (by rw [HNV.out]; exact Nat.le_refl _)
      rw [htk] at HGW
      clear htk
      go_wp2_with (fail)
      go_ret2
      refine ⟨HKA.out.then_ HK.out, A, c, es, by rw [HNV.out]; rfl, HGW.out.ow.sl, fun a ha => ?_, HGW.out.el.mono (fun j _ hj => ?_)⟩
      · have := HGW.out.at_ a ha; have := HZ0.out; have := HB0.out; omega
      · rcases hj with hj | hj
        · exact .inl ⟨hj.1, HD.out j hj.1⟩
        · have := HZ0.out; have := HB0.out; exact .inr (by omega)
end Go.Proofs.YticnefkdkkjgcaaGreatDoor

/- typed.elements of a typed array. Printed by mkts. -/
namespace Go.Proofs.YticnefkdkkjgcaaGreatDoor
open Go.RowKit

def szV : Value → Nat
  | .string s => s.size
  | _ => 0
theorem bl_gets (t : ByteArray) (i : Nat) (h : i < t.size) : (bl t)[i]? = some (t[i]'h).toNat := by
  unfold bl
  rw [List.getElem?_map]
  have h2 : t.data.toList[i]? = some (t[i]'h) := by
    rw [Array.getElem?_toList]
    exact Array.getElem?_eq_getElem h
  rw [h2]
  rfl
theorem decL_len (lit : Bool) (n : Nat) : ∀ (m : Nat) (b : List Nat), (decL lit n m b).length = m
  | 0, _ => rfl
  | m + 1, b => by rw [decL, List.length_cons, decL_len lit n m]

set_option maxRecDepth 100000 in
set_option maxHeartbeats 1000000 in
theorem elements_big (e n i0 cnt : Nat) (b : List Nat) (g : Nat → V) (lists : Bool) (hi : i0 < 23) (hk : kdL.getD i0 0 = e) (he0 : e ≠ 0) (hn : 0 < n) (hn8 : n ≤ 8) (hb8 : B8 b) (hcnt : b.length = n * cnt) (hc9 : cnt ≤ 1000000000)
    (hsz : ∀ w, Calls Tryz.prog 68 #[.int .i8 (e : Int)] w fun E w' => E = .returned (.int .i64 (n : Int)) ∧ w = w')
    (hand : bits .and .i8 (e : Int) 64 = 0) (hg : ∀ x, wrV (g x) = false)
    (hone : ∀ (x : Nat) (W : World), x < 256 ^ n → Calls Tryz.prog 71 #[.int .i8 (e : Int), .int .u64 (x : Int)] W fun E w' => Keep nob W w' ∧ ∃ r, E = .returned (EE.val ⟨r, 0, false⟩) ∧ Tr w' (fun k => W.heap.size ≤ k) r (g x))
    (r : Raw) (D : Nat → Prop) (B : Nat) (sa : Nat → Addr) (w : World) (gl : GL B sa w) (ht : Tr w D r (arrV (64 + i0) b)) :
    Calls Tryz.prog 39 #[ER.val r, .bool lists] w (ElsPost w (fun _ => False) ((decL false n cnt b).map g)) := by
  have hbl9 : b.length ≤ 9000000000 := by rw [hcnt]; exact Nat.le_trans (Nat.mul_le_mul hn8 hc9) (by decide)
  have HFM := Lib.hid (fun (W : World) (hk' : Keep nob w W) => form_ok e n i0 b hi hk he0 hn hn8 (by rw [hcnt]; exact Nat.mul_mod_right n cnt) hbl9 hsz r D B sa W (gl.keep hk' (fun _ h => h.elim)) (Tr.keep hk' (nobD D) _ _ ht))
  have HSZ := Lib.hid hsz
  have HON := Lib.hid hone
  have HWG := Lib.hid hg
  have HRN := Lib.hid (range_new w r 39)
  have HKA : Hid (Keep nob w (w.alloc (.cells (ER.cells r).toArray 39))) := Lib.hid ((Keep.refl _ _).alloc _)
  obtain ⟨x0, HX0⟩ : ∃ x0, Hid (w.alloc (.cells (ER.cells r).toArray 39) = x0) := ⟨_, Lib.hid rfl⟩
  obtain ⟨b0, HB0⟩ : ∃ b0, Hid (w.heap.size = b0) := ⟨_, Lib.hid rfl⟩
  have HZ0 : Hid (x0.heap.size = b0 + 1) := by unfold Hid; rw [← HX0.out, ← HB0.out]; simp
  rw [HX0.out, HB0.out] at HRN
  rw [HX0.out] at HKA
  obtain ⟨-, -, h1, -, -, -, -, -⟩ := arr_open ht
  obtain ⟨rk, rn, rneg, rA, rL, rC, rbits, rext, rtext, rkA, rkL, rkC⟩ := r
  dsimp only at h1
  subst h1
  simp only [ER, Int.cast_ofNat_Int] at HFM ⊢
  have HX : Hid (w.alloc (.cells #[.int .i8 9, .int .u64 (rn : Int), .bool rneg, .slice rA rL rC, .int .u64 (rbits : Int), .int .i8 rext, .string rtext, .slice rkA rkL rkC] 39) = x0) := HX0
  obtain ⟨a0, a1, a2, a3, a4, a5, a6, a7⟩ := cells_val HRN.out
  simp only [Int.cast_ofNat_Int] at a0 a7
  have HF0 := Lib.hid (HFM.out x0 HKA.out)
  obtain ⟨T, HT⟩ : ∃ T, Hid (Bt b = T) := ⟨_, Lib.hid rfl⟩
  rw [HT.out] at HF0
  have HTL : Hid (T.size = n * cnt) := Lib.hid (by rw [← HT.out, Bt_size, hcnt])
  have HTB : Hid (bl T = b) := Lib.hid (by rw [← HT.out, bl_Bt hb8])
  obtain ⟨n1, HN1⟩ : ∃ n1 : Nat, Hid (n - 1 = n1) := ⟨_, Lib.hid rfl⟩
  have in1 : IntKind.i64.wrap ((n : Int) - 1) = (n1 : Int) := by rw [← HN1.out, IntWalk.i64_left, IntWalk.wrap64_in _ ⟨by omega, by omega⟩]; omega
  obtain ⟨all, HALL⟩ : ∃ all, Hid ((decL false n cnt b).map g = all) := ⟨_, Lib.hid rfl⟩
  have HLEN : Hid (all.length = cnt) := Lib.hid (by rw [← HALL.out, List.length_map, decL_len])
  rw [HALL.out]
  clear HX0 ht hsz hone hg hi hk he0 hcnt hbl9 hb8 gl
  go_enter Tryz.func39, Tryz.ntmps39
  go_upto_region 1 with (fail)
  rw [HX.out, HB0.out]
  go_wp2_with (first
    | (go_at_call 70; go_must (refine HF0.out.mono ?_); rintro E y1 ⟨rfl, hk1⟩; have HK1 := Lib.hid hk1; clear hk1)
    | (go_at_call 68; go_must (refine (HSZ.out _).mono ?_); rintro E y2 ⟨rfl, rfl⟩))
  go_loopw [6, 10] (fun u6 u10 wr => ∃ (i c rem : Nat) (A : Option Addr) (es : List Elm) (s : ByteArray) (vs : List V), i + rem = cnt ∧ u6 = .slice A i c ∧ u10 = .string s ∧ Hid (s.size = n * rem) ∧ Hid (es.length = i) ∧ Hid (vs ++ (decL false n rem (bl s)).map g = all) ∧ Hid (GrowE wr x0.heap.size (fun _ => False) A c es vs) ∧ Hid (Keep nob x0 wr)) (fun _ u10 _ => szV u10)
  case atStart => exact ⟨0, 0, cnt, none, [], T, [], by omega, rfl, rfl, HTL, Lib.hid rfl, Lib.hid (by rw [HTB.out, List.nil_append]; exact HALL.out), Lib.hid (GrowE.nil _ _ _), HK1⟩
  case round =>
    obtain ⟨i, c, rem, A, es, s, vs, hir, rfl, rfl, HS, HEL, HF, HGW, HK⟩ := hrel
    rcases Nat.eq_zero_or_pos rem with hr0 | hr0
    · subst hr0
      have hs0 : decide ((s.size : Int) > 0) = false := by rw [HS.out, Nat.mul_zero]; decide
      have hs0' : decide (0 < s.size) = false := by rw [HS.out, Nat.mul_zero]; decide
      have HV : Hid (vs = all) := by
        refine Lib.hid ?_
        rw [← HF.out, decL, List.map_nil, List.append_nil]
      rw [HV.out] at HGW
      go_wp2_with (fail)
      go_ret2
      refine ⟨HKA.out.then_ HK.out, A, c, es, by rw [HLEN.out, show i = cnt by omega]; rfl, HGW.out.ow.sl, fun a ha => ?_, HGW.out.el.mono (fun j _ hj => ?_)⟩
      · have := HGW.out.at_ a ha; have := HZ0.out; have := HB0.out; omega
      · rcases hj with hj | hj
        · exact hj.1.elim
        · have := HZ0.out; have := HB0.out; exact .inr (by omega)
    · obtain ⟨q, rfl⟩ : ∃ q, rem = q + 1 := ⟨rem - 1, by omega⟩
      have hsn : s.size = n * q + n := by rw [HS.out, Nat.mul_succ]
      have hs0 : decide ((s.size : Int) > 0) = true := by rw [decide_eq_true_iff]; omega
      have hs1 : n ≤ s.size := by omega
      have hs9 : s.size ≤ 9000000000 := by
        have h2 : n * q ≤ 8 * 1000000000 := Nat.mul_le_mul hn8 (by omega)
        omega
      have HSN := Lib.hid hsn
      clear hsn
      obtain ⟨ch, HCH⟩ : ∃ ch, Hid ((bl s).take n = ch) := ⟨_, Lib.hid rfl⟩
      have HCL : Hid (ch.length = n) := Lib.hid (by rw [← HCH.out, List.length_take, bl_len]; omega)
      have HCB : Hid (B8 ch) := Lib.hid (fun y hy => bl_lt s y (List.mem_of_mem_take (by rw [HCH.out]; exact hy)))
      go_wp2_with (fail)
      go_loop [13, 61] (fun u13 u61 => ∃ (j x : Nat), j ≤ n ∧ u61 = .int .i64 (j : Int) ∧ u13 = .int .u64 (x : Int) ∧ Hid (beN ((ordB false ch).take j) = x)) (fun _ u61 => n - (intOf u61).toNat)
      case atStart => exact ⟨0, 0, Nat.zero_le _, rfl, rfl, Lib.hid rfl⟩
      case round =>
        obtain ⟨j, x, hj, rfl, rfl, HBE⟩ := hrel
        rcases Nat.lt_or_ge j n with hjl | hjg
        · obtain ⟨d, HD⟩ : ∃ d, Hid (n - 1 - j = d) := ⟨_, Lib.hid rfl⟩
          have hd8 : d < n := by rw [← HD.out]; omega
          have in2 : IntKind.i64.wrap ((n1 : Int) - (j : Int)) = (d : Int) := by rw [← HD.out, ← HN1.out, IntWalk.i64_left, IntWalk.wrap64_in _ ⟨by omega, by omega⟩]; omega
          have hlt : j < s.size := by omega
          obtain ⟨y, HY⟩ : ∃ y, Hid ((s[j]'hlt).toNat = y) := ⟨_, Lib.hid rfl⟩
          have hy : (s[j]'hlt).toNat = y := HY.out
          have hy8 : y < 256 := by rw [← hy]; exact UInt8.toNat_lt _
          have hx8 : x < 256 ^ j := by
            have hob : B8 (ordB false ch) := HCB.out
            have h := beN_fold ((ordB false ch).take j) 0 (fun z hz => hob z (List.mem_of_mem_take hz))
            rw [List.length_take, ordB_len, HCL.out, Nat.min_eq_left hj, Nat.zero_add, Nat.one_mul] at h
            rw [← HBE.out]
            exact h
          have hx7 : x < 256 ^ 7 := Nat.lt_of_lt_of_le hx8 (Nat.pow_le_pow_right (by decide) (by omega))
          have HBE2 : Hid (beN ((ordB false ch).take (j + 1)) = x * 256 + y) := by
            refine Lib.hid ?_
            rw [num_round false ch j (by rw [HCL.out]; exact hjl), HBE.out, HCL.out]
            congr 1
            have h2 : shiftB (!false) n j = j := rfl
            rw [h2, ← HCH.out, List.getD_eq_getElem?_getD, List.getElem?_take, if_pos (by omega), bl_gets s j hlt, hy]
            rfl
          obtain ⟨xx, HXX⟩ : ∃ xx, Hid (x * 256 = xx) := ⟨_, Lib.hid rfl⟩
          obtain ⟨xy, HXY⟩ : ∃ xy, Hid (x * 256 + y = xy) := ⟨_, Lib.hid rfl⟩
          rw [HXY.out] at HBE2
          have i2 : IntKind.u64.wrap ((x : Int) * 256) = (xx : Int) := by have := HXX.out; rw [IntKind.wrap_u64]; omega
          have i3 : IntKind.u64.wrap (y : Int) = (y : Int) := by rw [IntKind.wrap_u64]; omega
          have i4 : bits .or .u64 (xx : Int) (y : Int) = (xy : Int) := by
            have h1 := u64_or_nat xx y (by have := HXX.out; omega) (by omega)
            have h2 : xx ||| y = xy := by
              have := Nat.two_pow_add_eq_or_of_lt (i := 8) hy8 x
              rw [← HXX.out, ← HXY.out, Nat.mul_comm x 256, show (256 : Nat) = 2 ^ 8 by decide, ← this]
            rw [h2] at h1
            exact h1
          have d1 : decide ((j : Int) < (n : Int)) = true := by rw [decide_eq_true_iff]; omega
          have q0 : (0 : Int) ≤ (j : Int) := by omega
          have q1 : (j : Int) < (s.size : Int) := by omega
          have j1 : IntKind.i64.wrap ((j : Int) + 1) = (j : Int) + 1 := by rw [IntWalk.i64_left, IntWalk.wrap64_in _ ⟨by omega, by omega⟩]
          have hxn : x < 72057594037927936 := hx7
          have HXN := Lib.hid hxn
          clear hx8 hx7 hxn
          go_wp2_with (fail)
          exact ⟨⟨j + 1, xy, hjl, rfl, rfl, HBE2⟩, by simp [intOf]; omega⟩
        · obtain rfl : j = n := by omega
          have d1 : decide ((j : Int) < (j : Int)) = false := by rw [decide_eq_false_iff_not]; omega
          have HXB : Hid (x < 256 ^ j ∧ numB false ch = x) := by
            have hnf := num_full false ch
            rw [HCL.out, HBE.out] at hnf
            refine Lib.hid ⟨?_, hnf.symm⟩
            have hob : B8 (ordB false ch) := HCB.out
            have h := beN_fold ((ordB false ch).take j) 0 (fun z hz => hob z (List.mem_of_mem_take hz))
            rw [List.length_take, ordB_len, HCL.out, Nat.min_self, Nat.zero_add, Nat.one_mul] at h
            rw [← HBE.out]
            exact h
          have HO1 := Lib.hid (HON.out x wr HXB.out.1)
          have HF2 : Hid ((vs ++ [g x]) ++ (decL false j q (bl (s.extract j s.size))).map g = all) := by
            refine Lib.hid ?_
            rw [← HF.out, decL, HCH.out, HXB.out.2, List.map_cons, bl_extract, List.take_of_length_le (by rw [bl_len]; exact Nat.le_refl _), List.append_assoc]
            rfl
          have HS2 : Hid ((s.extract j s.size).size = j * q) := by
            refine Lib.hid ?_
            rw [ByteArray.size_extract, Nat.min_self, HSN.out]
            omega
          have HMW : Hid (x0.heap.size ≤ wr.heap.size) := Lib.hid HK.out.size
          have hi9 : i + 1 ≤ 1000000000 := by omega
          go_wp2_with (first
            | (go_at_call 71; go_must (refine HO1.out.mono ?_); rintro E w3 ⟨hk3, rr, rfl, ht3⟩; have HK3 := Lib.hid hk3; have HT3 := Lib.hid ht3; clear hk3 ht3; simp only [EE]; have HSL5 := Lib.hid (one_slE w3 ⟨rr, 0, false⟩ 94); have HK5 : Hid (Keep nob w3 (w3.alloc (.cells (EE.cells ⟨rr, 0, false⟩).toArray 94))) := Lib.hid ((Keep.refl _ _).alloc _); have HG5 := Lib.hid ((HGW.out.keep HK3.out).keep HK5.out))
            | (at_builtin; refine wpList_append_ow EE rfl _ _ 90 rfl 94 _ 120 Tryz.underlying90 infoElem rfl A i c rfl es HEL.out HG5.out.ow (some ⟨w3.heap.size, 0, none⟩) 1 1 rfl [_] rfl HSL5.out (by omega) (by omega) ?_; intro A' c' w6 hap; have HAP := Lib.hid hap; clear hap))
          have hz3 := HK3.out.size
          have hz5 := HK5.out.size
          have hmw := HMW.out
          have hpush := HG5.out.push HAP.out (by omega) (Tr.keep HK5.out (nobD _) _ _ HT3.out) rfl (HWG.out x).symm (fun k _ hd => .inr ⟨by omega, fun ⟨a, ha, hb⟩ => by have := HGW.out.lt a ha; omega⟩)
          have hkept := HG5.out.kept HAP.out (Nat.le_refl _) ((HK.out.then_ HK3.out).then_ HK5.out)
          refine ⟨⟨i + 1, c', q, A', _, s.extract j s.size, _, by omega, rfl, ?_, HS2, Lib.hid (by rw [List.length_append, HEL.out]; rfl), HF2, Lib.hid hpush, Lib.hid hkept⟩, ?_⟩
          · rfl
          · show (s.extract j s.size).size < s.size
            rw [HS2.out, HSN.out]
            omega

set_option maxRecDepth 100000 in
set_option maxHeartbeats 1000000 in
theorem elements_lit (e n i0 cnt : Nat) (b : List Nat) (g : Nat → V) (lists : Bool) (hi : i0 < 23) (hk : kdL.getD i0 0 = e) (he0 : e ≠ 0) (hn : 0 < n) (hn8 : n ≤ 8) (hb8 : B8 b) (hcnt : b.length = n * cnt) (hc9 : cnt ≤ 1000000000)
    (hsz : ∀ w, Calls Tryz.prog 68 #[.int .i8 (e : Int)] w fun E w' => E = .returned (.int .i64 (n : Int)) ∧ w = w')
    (hand : bits .and .i8 (e : Int) 64 = 64) (hg : ∀ x, wrV (g x) = false)
    (hone : ∀ (x : Nat) (W : World), x < 256 ^ n → Calls Tryz.prog 71 #[.int .i8 (e : Int), .int .u64 (x : Int)] W fun E w' => Keep nob W w' ∧ ∃ r, E = .returned (EE.val ⟨r, 0, false⟩) ∧ Tr w' (fun k => W.heap.size ≤ k) r (g x))
    (r : Raw) (D : Nat → Prop) (B : Nat) (sa : Nat → Addr) (w : World) (gl : GL B sa w) (ht : Tr w D r (arrV (64 + i0) b)) :
    Calls Tryz.prog 39 #[ER.val r, .bool lists] w (ElsPost w (fun _ => False) ((decL true n cnt b).map g)) := by
  have hbl9 : b.length ≤ 9000000000 := by rw [hcnt]; exact Nat.le_trans (Nat.mul_le_mul hn8 hc9) (by decide)
  have HFM := Lib.hid (fun (W : World) (hk' : Keep nob w W) => form_ok e n i0 b hi hk he0 hn hn8 (by rw [hcnt]; exact Nat.mul_mod_right n cnt) hbl9 hsz r D B sa W (gl.keep hk' (fun _ h => h.elim)) (Tr.keep hk' (nobD D) _ _ ht))
  have HSZ := Lib.hid hsz
  have HON := Lib.hid hone
  have HWG := Lib.hid hg
  have HRN := Lib.hid (range_new w r 39)
  have HKA : Hid (Keep nob w (w.alloc (.cells (ER.cells r).toArray 39))) := Lib.hid ((Keep.refl _ _).alloc _)
  obtain ⟨x0, HX0⟩ : ∃ x0, Hid (w.alloc (.cells (ER.cells r).toArray 39) = x0) := ⟨_, Lib.hid rfl⟩
  obtain ⟨b0, HB0⟩ : ∃ b0, Hid (w.heap.size = b0) := ⟨_, Lib.hid rfl⟩
  have HZ0 : Hid (x0.heap.size = b0 + 1) := by unfold Hid; rw [← HX0.out, ← HB0.out]; simp
  rw [HX0.out, HB0.out] at HRN
  rw [HX0.out] at HKA
  obtain ⟨-, -, h1, -, -, -, -, -⟩ := arr_open ht
  obtain ⟨rk, rn, rneg, rA, rL, rC, rbits, rext, rtext, rkA, rkL, rkC⟩ := r
  dsimp only at h1
  subst h1
  simp only [ER, Int.cast_ofNat_Int] at HFM ⊢
  have HX : Hid (w.alloc (.cells #[.int .i8 9, .int .u64 (rn : Int), .bool rneg, .slice rA rL rC, .int .u64 (rbits : Int), .int .i8 rext, .string rtext, .slice rkA rkL rkC] 39) = x0) := HX0
  obtain ⟨a0, a1, a2, a3, a4, a5, a6, a7⟩ := cells_val HRN.out
  simp only [Int.cast_ofNat_Int] at a0 a7
  have HF0 := Lib.hid (HFM.out x0 HKA.out)
  obtain ⟨T, HT⟩ : ∃ T, Hid (Bt b = T) := ⟨_, Lib.hid rfl⟩
  rw [HT.out] at HF0
  have HTL : Hid (T.size = n * cnt) := Lib.hid (by rw [← HT.out, Bt_size, hcnt])
  have HTB : Hid (bl T = b) := Lib.hid (by rw [← HT.out, bl_Bt hb8])
  obtain ⟨n1, HN1⟩ : ∃ n1 : Nat, Hid (n - 1 = n1) := ⟨_, Lib.hid rfl⟩
  have in1 : IntKind.i64.wrap ((n : Int) - 1) = (n1 : Int) := by rw [← HN1.out, IntWalk.i64_left, IntWalk.wrap64_in _ ⟨by omega, by omega⟩]; omega
  obtain ⟨all, HALL⟩ : ∃ all, Hid ((decL true n cnt b).map g = all) := ⟨_, Lib.hid rfl⟩
  have HLEN : Hid (all.length = cnt) := Lib.hid (by rw [← HALL.out, List.length_map, decL_len])
  rw [HALL.out]
  clear HX0 ht hsz hone hg hi hk he0 hcnt hbl9 hb8 gl
  go_enter Tryz.func39, Tryz.ntmps39
  go_upto_region 1 with (fail)
  rw [HX.out, HB0.out]
  go_wp2_with (first
    | (go_at_call 70; go_must (refine HF0.out.mono ?_); rintro E y1 ⟨rfl, hk1⟩; have HK1 := Lib.hid hk1; clear hk1)
    | (go_at_call 68; go_must (refine (HSZ.out _).mono ?_); rintro E y2 ⟨rfl, rfl⟩))
  go_loopw [6, 10] (fun u6 u10 wr => ∃ (i c rem : Nat) (A : Option Addr) (es : List Elm) (s : ByteArray) (vs : List V), i + rem = cnt ∧ u6 = .slice A i c ∧ u10 = .string s ∧ Hid (s.size = n * rem) ∧ Hid (es.length = i) ∧ Hid (vs ++ (decL true n rem (bl s)).map g = all) ∧ Hid (GrowE wr x0.heap.size (fun _ => False) A c es vs) ∧ Hid (Keep nob x0 wr)) (fun _ u10 _ => szV u10)
  case atStart => exact ⟨0, 0, cnt, none, [], T, [], by omega, rfl, rfl, HTL, Lib.hid rfl, Lib.hid (by rw [HTB.out, List.nil_append]; exact HALL.out), Lib.hid (GrowE.nil _ _ _), HK1⟩
  case round =>
    obtain ⟨i, c, rem, A, es, s, vs, hir, rfl, rfl, HS, HEL, HF, HGW, HK⟩ := hrel
    rcases Nat.eq_zero_or_pos rem with hr0 | hr0
    · subst hr0
      have hs0 : decide ((s.size : Int) > 0) = false := by rw [HS.out, Nat.mul_zero]; decide
      have hs0' : decide (0 < s.size) = false := by rw [HS.out, Nat.mul_zero]; decide
      have HV : Hid (vs = all) := by
        refine Lib.hid ?_
        rw [← HF.out, decL, List.map_nil, List.append_nil]
      rw [HV.out] at HGW
      go_wp2_with (fail)
      go_ret2
      refine ⟨HKA.out.then_ HK.out, A, c, es, by rw [HLEN.out, show i = cnt by omega]; rfl, HGW.out.ow.sl, fun a ha => ?_, HGW.out.el.mono (fun j _ hj => ?_)⟩
      · have := HGW.out.at_ a ha; have := HZ0.out; have := HB0.out; omega
      · rcases hj with hj | hj
        · exact hj.1.elim
        · have := HZ0.out; have := HB0.out; exact .inr (by omega)
    · obtain ⟨q, rfl⟩ : ∃ q, rem = q + 1 := ⟨rem - 1, by omega⟩
      have hsn : s.size = n * q + n := by rw [HS.out, Nat.mul_succ]
      have hs0 : decide ((s.size : Int) > 0) = true := by rw [decide_eq_true_iff]; omega
      have hs1 : n ≤ s.size := by omega
      have hs9 : s.size ≤ 9000000000 := by
        have h2 : n * q ≤ 8 * 1000000000 := Nat.mul_le_mul hn8 (by omega)
        omega
      have HSN := Lib.hid hsn
      clear hsn
      obtain ⟨ch, HCH⟩ : ∃ ch, Hid ((bl s).take n = ch) := ⟨_, Lib.hid rfl⟩
      have HCL : Hid (ch.length = n) := Lib.hid (by rw [← HCH.out, List.length_take, bl_len]; omega)
      have HCB : Hid (B8 ch) := Lib.hid (fun y hy => bl_lt s y (List.mem_of_mem_take (by rw [HCH.out]; exact hy)))
      go_wp2_with (fail)
      go_loop [13, 61] (fun u13 u61 => ∃ (j x : Nat), j ≤ n ∧ u61 = .int .i64 (j : Int) ∧ u13 = .int .u64 (x : Int) ∧ Hid (beN ((ordB true ch).take j) = x)) (fun _ u61 => n - (intOf u61).toNat)
      case atStart => exact ⟨0, 0, Nat.zero_le _, rfl, rfl, Lib.hid rfl⟩
      case round =>
        obtain ⟨j, x, hj, rfl, rfl, HBE⟩ := hrel
        rcases Nat.lt_or_ge j n with hjl | hjg
        · obtain ⟨d, HD⟩ : ∃ d, Hid (n - 1 - j = d) := ⟨_, Lib.hid rfl⟩
          have hd8 : d < n := by rw [← HD.out]; omega
          have in2 : IntKind.i64.wrap ((n1 : Int) - (j : Int)) = (d : Int) := by rw [← HD.out, ← HN1.out, IntWalk.i64_left, IntWalk.wrap64_in _ ⟨by omega, by omega⟩]; omega
          have hlt : d < s.size := by omega
          obtain ⟨y, HY⟩ : ∃ y, Hid ((s[d]'hlt).toNat = y) := ⟨_, Lib.hid rfl⟩
          have hy : (s[d]'hlt).toNat = y := HY.out
          have hy8 : y < 256 := by rw [← hy]; exact UInt8.toNat_lt _
          have hx8 : x < 256 ^ j := by
            have hob : B8 (ordB true ch) := fun z hz => HCB.out z (List.mem_reverse.1 hz)
            have h := beN_fold ((ordB true ch).take j) 0 (fun z hz => hob z (List.mem_of_mem_take hz))
            rw [List.length_take, ordB_len, HCL.out, Nat.min_eq_left hj, Nat.zero_add, Nat.one_mul] at h
            rw [← HBE.out]
            exact h
          have hx7 : x < 256 ^ 7 := Nat.lt_of_lt_of_le hx8 (Nat.pow_le_pow_right (by decide) (by omega))
          have HBE2 : Hid (beN ((ordB true ch).take (j + 1)) = x * 256 + y) := by
            refine Lib.hid ?_
            rw [num_round true ch j (by rw [HCL.out]; exact hjl), HBE.out, HCL.out]
            congr 1
            have h2 : shiftB (!true) n j = d := HD.out
            rw [h2, ← HCH.out, List.getD_eq_getElem?_getD, List.getElem?_take, if_pos (by omega), bl_gets s d hlt, hy]
            rfl
          obtain ⟨xx, HXX⟩ : ∃ xx, Hid (x * 256 = xx) := ⟨_, Lib.hid rfl⟩
          obtain ⟨xy, HXY⟩ : ∃ xy, Hid (x * 256 + y = xy) := ⟨_, Lib.hid rfl⟩
          rw [HXY.out] at HBE2
          have i2 : IntKind.u64.wrap ((x : Int) * 256) = (xx : Int) := by have := HXX.out; rw [IntKind.wrap_u64]; omega
          have i3 : IntKind.u64.wrap (y : Int) = (y : Int) := by rw [IntKind.wrap_u64]; omega
          have i4 : bits .or .u64 (xx : Int) (y : Int) = (xy : Int) := by
            have h1 := u64_or_nat xx y (by have := HXX.out; omega) (by omega)
            have h2 : xx ||| y = xy := by
              have := Nat.two_pow_add_eq_or_of_lt (i := 8) hy8 x
              rw [← HXX.out, ← HXY.out, Nat.mul_comm x 256, show (256 : Nat) = 2 ^ 8 by decide, ← this]
            rw [h2] at h1
            exact h1
          have d1 : decide ((j : Int) < (n : Int)) = true := by rw [decide_eq_true_iff]; omega
          have q0 : (0 : Int) ≤ (d : Int) := by omega
          have q1 : (d : Int) < (s.size : Int) := by omega
          have j1 : IntKind.i64.wrap ((j : Int) + 1) = (j : Int) + 1 := by rw [IntWalk.i64_left, IntWalk.wrap64_in _ ⟨by omega, by omega⟩]
          have hxn : x < 72057594037927936 := hx7
          have HXN := Lib.hid hxn
          clear hx8 hx7 hxn
          go_wp2_with (fail)
          exact ⟨⟨j + 1, xy, hjl, rfl, rfl, HBE2⟩, by simp [intOf]; omega⟩
        · obtain rfl : j = n := by omega
          have d1 : decide ((j : Int) < (j : Int)) = false := by rw [decide_eq_false_iff_not]; omega
          have HXB : Hid (x < 256 ^ j ∧ numB true ch = x) := by
            have hnf := num_full true ch
            rw [HCL.out, HBE.out] at hnf
            refine Lib.hid ⟨?_, hnf.symm⟩
            have hob : B8 (ordB true ch) := fun z hz => HCB.out z (List.mem_reverse.1 hz)
            have h := beN_fold ((ordB true ch).take j) 0 (fun z hz => hob z (List.mem_of_mem_take hz))
            rw [List.length_take, ordB_len, HCL.out, Nat.min_self, Nat.zero_add, Nat.one_mul] at h
            rw [← HBE.out]
            exact h
          have HO1 := Lib.hid (HON.out x wr HXB.out.1)
          have HF2 : Hid ((vs ++ [g x]) ++ (decL true j q (bl (s.extract j s.size))).map g = all) := by
            refine Lib.hid ?_
            rw [← HF.out, decL, HCH.out, HXB.out.2, List.map_cons, bl_extract, List.take_of_length_le (by rw [bl_len]; exact Nat.le_refl _), List.append_assoc]
            rfl
          have HS2 : Hid ((s.extract j s.size).size = j * q) := by
            refine Lib.hid ?_
            rw [ByteArray.size_extract, Nat.min_self, HSN.out]
            omega
          have HMW : Hid (x0.heap.size ≤ wr.heap.size) := Lib.hid HK.out.size
          have hi9 : i + 1 ≤ 1000000000 := by omega
          go_wp2_with (first
            | (go_at_call 71; go_must (refine HO1.out.mono ?_); rintro E w3 ⟨hk3, rr, rfl, ht3⟩; have HK3 := Lib.hid hk3; have HT3 := Lib.hid ht3; clear hk3 ht3; simp only [EE]; have HSL5 := Lib.hid (one_slE w3 ⟨rr, 0, false⟩ 94); have HK5 : Hid (Keep nob w3 (w3.alloc (.cells (EE.cells ⟨rr, 0, false⟩).toArray 94))) := Lib.hid ((Keep.refl _ _).alloc _); have HG5 := Lib.hid ((HGW.out.keep HK3.out).keep HK5.out))
            | (at_builtin; refine wpList_append_ow EE rfl _ _ 90 rfl 94 _ 120 Tryz.underlying90 infoElem rfl A i c rfl es HEL.out HG5.out.ow (some ⟨w3.heap.size, 0, none⟩) 1 1 rfl [_] rfl HSL5.out (by omega) (by omega) ?_; intro A' c' w6 hap; have HAP := Lib.hid hap; clear hap))
          have hz3 := HK3.out.size
          have hz5 := HK5.out.size
          have hmw := HMW.out
          have hpush := HG5.out.push HAP.out (by omega) (Tr.keep HK5.out (nobD _) _ _ HT3.out) rfl (HWG.out x).symm (fun k _ hd => .inr ⟨by omega, fun ⟨a, ha, hb⟩ => by have := HGW.out.lt a ha; omega⟩)
          have hkept := HG5.out.kept HAP.out (Nat.le_refl _) ((HK.out.then_ HK3.out).then_ HK5.out)
          refine ⟨⟨i + 1, c', q, A', _, s.extract j s.size, _, by omega, rfl, ?_, HS2, Lib.hid (by rw [List.length_append, HEL.out]; rfl), HF2, Lib.hid hpush, Lib.hid hkept⟩, ?_⟩
          · rfl
          · show (s.extract j s.size).size < s.size
            rw [HS2.out, HSN.out]
            omega

theorem and_eK : ∀ small : Bool, ∀ k : Fin 9, 1 ≤ k.val → bits .and .i8 (eK small k : Nat) 64 = (if litK small k then 64 else 0) ∧ eK small k ≠ 0 := by decide
theorem sizeE_ok (k : Nat) (small : Bool) (h1 : 1 ≤ k) (h8 : k ≤ 8) (w : World) : Calls Tryz.prog 68 #[.int .i8 (eK small k : Nat)] w fun E w' => E = .returned (.int .i64 (nK k : Nat)) ∧ w = w' := by
  have hk : k = 1 ∨ k = 2 ∨ k = 3 ∨ k = 4 ∨ k = 5 ∨ k = 6 ∨ k = 7 ∨ k = 8 := by omega
  rcases hk with rfl | rfl | rfl | rfl | rfl | rfl | rfl | rfl
  · cases small
    · exact (size_1 w).mono fun _ _ ⟨a, b⟩ => ⟨a, b.symm⟩
    · exact (size_1 w).mono fun _ _ ⟨a, b⟩ => ⟨a, b.symm⟩
  · cases small
    · exact (size_2 w).mono fun _ _ ⟨a, b⟩ => ⟨a, b.symm⟩
    · exact (size_66 w).mono fun _ _ ⟨a, b⟩ => ⟨a, b.symm⟩
  · cases small
    · exact (size_3 w).mono fun _ _ ⟨a, b⟩ => ⟨a, b.symm⟩
    · exact (size_67 w).mono fun _ _ ⟨a, b⟩ => ⟨a, b.symm⟩
  · cases small
    · exact (size_4 w).mono fun _ _ ⟨a, b⟩ => ⟨a, b.symm⟩
    · exact (size_68 w).mono fun _ _ ⟨a, b⟩ => ⟨a, b.symm⟩
  · cases small
    · exact (size_5 w).mono fun _ _ ⟨a, b⟩ => ⟨a, b.symm⟩
    · exact (size_5 w).mono fun _ _ ⟨a, b⟩ => ⟨a, b.symm⟩
  · cases small
    · exact (size_6 w).mono fun _ _ ⟨a, b⟩ => ⟨a, b.symm⟩
    · exact (size_70 w).mono fun _ _ ⟨a, b⟩ => ⟨a, b.symm⟩
  · cases small
    · exact (size_7 w).mono fun _ _ ⟨a, b⟩ => ⟨a, b.symm⟩
    · exact (size_71 w).mono fun _ _ ⟨a, b⟩ => ⟨a, b.symm⟩
  · cases small
    · exact (size_8 w).mono fun _ _ ⟨a, b⟩ => ⟨a, b.symm⟩
    · exact (size_72 w).mono fun _ _ ⟨a, b⟩ => ⟨a, b.symm⟩
/-- the numbers of an array's bytes -/
def arrN (k : Nat) (small : Bool) (cnt : Nat) (b : List Nat) : List Int := (decL (litK small k) (nK k) cnt b).map (valN (sgK k) (nK k))
theorem elements_arr (k : Nat) (small : Bool) (h1 : 1 ≤ k) (h8 : k ≤ 8) (cnt : Nat) (b : List Nat) (lists : Bool) (hb8 : B8 b) (hcnt : b.length = nK k * cnt) (hc9 : cnt ≤ 1000000000)
    (r : Raw) (D : Nat → Prop) (B : Nat) (sa : Nat → Addr) (w : World) (gl : GL B sa w) (ht : Tr w D r (arrV (64 + iK small k) b)) :
    Calls Tryz.prog 39 #[ER.val r, .bool lists] w (ElsPost w (fun _ => False) ((arrN k small cnt b).map intW)) := by
  obtain ⟨k1, k2⟩ := kd_iK small ⟨k, by omega⟩ h1
  obtain ⟨k3, k4⟩ := and_eK small ⟨k, by omega⟩ h1
  dsimp only at k1 k2 k3 k4
  have hone : ∀ (x : Nat) (W : World), x < 256 ^ nK k → Calls Tryz.prog 71 #[.int .i8 (eK small k : Nat), .int .u64 (x : Int)] W fun E w' => Keep nob W w' ∧ ∃ r, E = .returned (EE.val ⟨r, 0, false⟩) ∧ Tr w' (fun k => W.heap.size ≤ k) r (intW (valN (sgK k) (nK k) x)) := fun x W hx => one_ok k small h1 h8 x hx W
  unfold arrN
  rw [List.map_map]
  cases hl : litK small k with
  | false =>
    rw [hl] at k3
    exact elements_big (eK small k) (nK k) (iK small k) cnt b (fun x => intW (valN (sgK k) (nK k) x)) lists k1 k2 k4 (nK_pos k).1 (nK_pos k).2 hb8 hcnt hc9 (sizeE_ok k small h1 h8) k3 (fun _ => rfl) hone r D B sa w gl ht
  | true =>
    rw [hl] at k3
    exact elements_lit (eK small k) (nK k) (iK small k) cnt b (fun x => intW (valN (sgK k) (nK k) x)) lists k1 k2 k4 (nK_pos k).1 (nK_pos k).2 hb8 hcnt hc9 (sizeE_ok k small h1 h8) k3 (fun _ => rfl) hone r D B sa w gl ht
end Go.Proofs.YticnefkdkkjgcaaGreatDoor

/- whole.Int64 of a number that it is. -/
namespace Go.Proofs.YticnefkdkkjgcaaGreatDoor
open Go.RowKit

theorem numL_cutE (v : Nat) : cutL (numL v) = numL v ∧ cutN (numL v) (numL v).length = (numL v).length := by
  have h1 : cutL (numL v) = numL v := by rw [cutL_num (numL_bd v), valL_numL]
  refine ⟨h1, ?_⟩
  rw [← cutL_len, h1]
theorem xor_neg1 (y : Nat) (h : y < 9223372036854775808) : bits .xor .i64 (-1) (y : Int) = -1 - (y : Int) := by
  show IntKind.i64.wrap ((BitVec.ofInt 64 (-1) ^^^ BitVec.ofInt 64 (y : Int)).toNat : Int) = _
  have h1 : BitVec.ofInt 64 (-1) = BitVec.allOnes 64 := by decide
  have h2 : BitVec.ofInt 64 (y : Int) = BitVec.ofNat 64 y := BitVec.ofInt_natCast ..
  have h3 : (~~~ BitVec.ofNat 64 y).toNat = 18446744073709551615 - y := by
    rw [BitVec.toNat_not, BitVec.toNat_ofNat, Nat.mod_eq_of_lt (by omega)]
  rw [h1, h2, BitVec.allOnes_xor, h3, IntKind.wrap_i64]
  omega
set_option maxRecDepth 100000 in
theorem int64_of (z : Int) (h1 : -9223372036854775808 ≤ z) (h2 : z < 9223372036854775808) (A : Option Addr) (c : Nat) (w : World) (h : Sl EU w A c (numL z.natAbs)) :
    Calls Tryz.prog 43 #[intV (decide (z < 0)) A (numL z.natAbs).length c] w fun e w' => e = .returned (.tuple #[.int .i64 z, .bool true]) ∧ Keep nob w w' := by
  have hl : (numL z.natAbs).length ≤ 2 := numL_len_le (f := 2) (by omega)
  obtain ⟨c1, c2⟩ := numL_cutE z.natAbs
  have HS := fun (W : World) (hk : Keep nob w W) => wsigned_ok (decide (z < 0)) A c (numL z.natAbs).length (numL z.natAbs) W rfl (h.keep hk (fun ⟨_, _, h⟩ => h)) (by omega)
  rw [c1, c2] at HS
  have HU := fun (A1 : Option Addr) (W : World) (hs : Sl EU W A1 (numL z.natAbs).length (numL z.natAbs)) => nUint_ok A1 (numL z.natAbs).length (numL z.natAbs).length (numL z.natAbs) W rfl hs (numL_bd _) (by omega)
  rw [valL_numL, c2] at HU
  have hUE : UintE z.natAbs (numL z.natAbs).length = .returned (.tuple #[.int .u64 (z.natAbs : Int), .bool true]) := if_pos hl
  rw [hUE] at HU
  obtain ⟨x, HX⟩ : ∃ x, Hid (z.natAbs = x) := ⟨_, Lib.hid rfl⟩
  have hx := HX.out
  rcases Int.lt_or_le z 0 with hz | hz
  · have hsg : sgn (decide (z < 0)) (numL z.natAbs).length = -1 := by
      unfold sgn
      have h3 : 0 < (numL z.natAbs).length := (numL_pos_iff _).2 (by omega)
      rw [if_neg (by omega), decide_eq_true hz]
      rfl
    rw [hsg] at HS
    rw [hx] at HS HU ⊢
    obtain ⟨L, HL⟩ : ∃ L, Hid ((numL x).length = L) := ⟨_, Lib.hid rfl⟩
    rw [HL.out] at HS HU ⊢
    obtain ⟨y, HY⟩ : ∃ y, Hid (x - 1 = y) := ⟨_, Lib.hid rfl⟩
    have hy := HY.out
    have i1' : (x : Int) - 1 = (y : Int) := by omega
    have i1 : IntKind.u64.wrap (y : Int) = (y : Int) := by rw [IntKind.wrap_u64]; omega
    have i2 : (y : Int) / 9223372036854775808 = 0 := by omega
    have i3 : IntKind.i64.wrap (y : Int) = (y : Int) := by rw [IntWalk.i64_left, IntWalk.wrap64_in _ ⟨by omega, by omega⟩]
    have i4 : bits .xor .i64 (-1) (y : Int) = z := by rw [xor_neg1 y (by omega)]; omega
    have i6 : IntKind.i64.wrap z = z := by rw [IntWalk.i64_left, IntWalk.wrap64_in _ ⟨by omega, by omega⟩]
    have HS := Lib.hid HS
    have HU := Lib.hid HU
    unfold intV at HS ⊢
    clear h1 h2 hl c1 c2 hUE hz hsg hy hx h
    have hb0 := int_new0 w (decide (z < 0)) A L c 36
    have hb1 := int_new1 w (decide (z < 0)) A L c 36
    go_enter Tryz.func43, Tryz.ntmps43
    go_upto_region 1 with (fail)
    obtain ⟨w0, HW0⟩ : ∃ w0, Hid (w.alloc (.cells #[.bool (decide (z < 0)), .slice A L c] 36) = w0) := ⟨_, Lib.hid rfl⟩
    have HK0 : Hid (Keep nob w w0) := by unfold Hid; rw [← HW0.out]; exact (Keep.refl _ _).alloc _
    obtain ⟨b, HB⟩ : ∃ b, Hid (w.heap.size = b) := ⟨_, Lib.hid rfl⟩
    rw [HW0.out, HB.out] at hb0 hb1
    rw [HW0.out, HB.out]
    go_wp2_with (first | (go_at_call 74; go_must (refine (HS.out _ HK0.out).mono ?_); rintro e w1 ⟨hk1, A1, rfl, hs1, -⟩; have HK1 := Lib.hid hk1; have HS1 := Lib.hid hs1; clear hk1 hs1) | (go_at_call 75; go_must (refine (HU.out _ _ HS1.out).mono ?_); rintro e w2 ⟨rfl, rfl⟩))
    go_ret2
    exact ⟨rfl, HK0.out.then_ HK1.out⟩
  · obtain ⟨sg, HSG⟩ : ∃ sg : Int, Hid (sgn (decide (z < 0)) (numL z.natAbs).length = sg) := ⟨_, Lib.hid rfl⟩
    have hsg : (sg == -1) = false := by
      rw [← HSG.out, decide_eq_false (by omega)]
      unfold sgn
      rw [beq_eq_false_iff_ne]
      split <;> decide
    have hz0 : decide (z < 0) = false := decide_eq_false (by omega)
    have hzx : z = (x : Int) := by omega
    rw [HSG.out] at HS
    rw [hx] at HS HU ⊢
    rw [hz0] at HS ⊢
    obtain ⟨L, HL⟩ : ∃ L, Hid ((numL x).length = L) := ⟨_, Lib.hid rfl⟩
    rw [HL.out] at HS HU ⊢
    have i2 : (x : Int) / 9223372036854775808 = 0 := by omega
    have i3 : IntKind.i64.wrap (x : Int) = (x : Int) := by rw [IntWalk.i64_left, IntWalk.wrap64_in _ ⟨by omega, by omega⟩]
    rw [hzx]
    clear hzx hz0
    have HS := Lib.hid HS
    have HU := Lib.hid HU
    unfold intV at HS ⊢
    clear h1 h2 hl c1 c2 hUE hz hx h
    have hb0 := int_new0 w (false) A L c 36
    have hb1 := int_new1 w (false) A L c 36
    go_enter Tryz.func43, Tryz.ntmps43
    go_upto_region 1 with (fail)
    obtain ⟨w0, HW0⟩ : ∃ w0, Hid (w.alloc (.cells #[.bool (false), .slice A L c] 36) = w0) := ⟨_, Lib.hid rfl⟩
    have HK0 : Hid (Keep nob w w0) := by unfold Hid; rw [← HW0.out]; exact (Keep.refl _ _).alloc _
    obtain ⟨b, HB⟩ : ∃ b, Hid (w.heap.size = b) := ⟨_, Lib.hid rfl⟩
    rw [HW0.out, HB.out] at hb0 hb1
    rw [HW0.out, HB.out]
    go_wp2_with (first | (go_at_call 74; go_must (refine (HS.out _ HK0.out).mono ?_); rintro e w1 ⟨hk1, A1, rfl, hs1, -⟩; have HK1 := Lib.hid hk1; have HS1 := Lib.hid hs1; clear hk1 hs1) | (go_at_call 75; go_must (refine (HU.out _ _ HS1.out).mono ?_); rintro e w2 ⟨rfl, rfl⟩))
    go_ret2
    exact ⟨rfl, HK0.out.then_ HK1.out⟩
end Go.Proofs.YticnefkdkkjgcaaGreatDoor

/- typed.ToInts of what holds whole numbers: its function, the loop over the elements. -/
namespace Go.Proofs.YticnefkdkkjgcaaGreatDoor
open Go.RowKit

/-- an int64 -/
def I64 (z : Int) : Prop := -9223372036854775808 ≤ z ∧ z < 9223372036854775808
theorem rangeE_new (w : World) (e : Elm) (T : TypeId) : (w.alloc (.cells (EE.cells e).toArray T)).rangeAt w.heap.size 0 (EE.cells e) := range_alloc_new w _ T _ (fun j v hj => by simpa using hj)
set_option maxRecDepth 100000 in
theorem toints1_ok (z : Int) (hz : I64 z) (e : Elm) (D : Nat → Prop) (w : World) (ht : Tr w D e.r (intW z)) :
    Calls Tryz.prog 42 #[EE.val e] w fun E w' => E = .returned (.tuple #[.int .i64 z, .bool true]) ∧ Keep nob w w' := by
  have h0 := ht
  unfold intW V.int at h0
  obtain ⟨h1, -, h3, -, -, -, ⟨h4, h5, -⟩, -⟩ := h0
  have HRN := Lib.hid (rangeE_new w e 94)
  have HKA : Hid (Keep nob w (w.alloc (.cells (EE.cells e).toArray 94))) := Lib.hid ((Keep.refl _ _).alloc _)
  obtain ⟨x0, HX0⟩ : ∃ x0, Hid (w.alloc (.cells (EE.cells e).toArray 94) = x0) := ⟨_, Lib.hid rfl⟩
  obtain ⟨b0, HB0⟩ : ∃ b0, Hid (w.heap.size = b0) := ⟨_, Lib.hid rfl⟩
  rw [HX0.out, HB0.out] at HRN
  rw [HX0.out] at HKA
  have HC := Lib.hid (int64_of z hz.1 hz.2 e.r.mA e.r.mC x0 (h5.keep HKA.out (fun ⟨_, _, h⟩ => h)))
  unfold intV at HC
  rw [← h4, ← h3] at HC
  obtain ⟨⟨rk, rn, rneg, rA, rL, rC, rbits, rext, rtext, rkA, rkL, rkC⟩, ex, ew⟩ := e
  dsimp only at h1 HC
  subst h1
  simp only [EE, Int.cast_ofNat_Int]
  have HX : Hid (w.alloc (.cells #[.int .i8 3, .int .u64 (rn : Int), .bool rneg, .slice rA rL rC, .int .u64 (rbits : Int), .int .i8 rext, .string rtext, .slice rkA rkL rkC, .float .f64 ex, .bool ew] 94) = x0) := HX0
  obtain ⟨a0, a1, a2, a3, a4, a5, a6, a7, a8, a9⟩ := elm_val HRN.out
  simp only [Int.cast_ofNat_Int, Nat.zero_add] at a0 a1 a2 a3 a4 a5 a6 a7 a8 a9
  clear HX0 ht h3 h4 h5 hz
  go_enter Tryz.func42, Tryz.ntmps42
  go_upto_region 1 with (fail)
  rw [HX.out, HB0.out]
  go_wp2_with (go_at_call 43; go_must (refine HC.out.mono ?_); rintro E w1 ⟨rfl, hk1⟩; have HK1 := Lib.hid hk1; clear hk1)
  go_ret2
  exact ⟨rfl, HKA.out.then_ HK1.out⟩
end Go.Proofs.YticnefkdkkjgcaaGreatDoor

/- What a row hands in: a slice of uint64, opened. -/
namespace Go.Proofs.YticnefkdkkjgcaaGreatDoor
open Go.ChangeShapes Go.WideShapes Go.ChangeAt Go.RowKit Go.Deep

section
variable {H : Type} {enc : TypeId × Value → H}
theorem bulk_lits (k : IntKind) : ∀ l : List Int, Rows.uptoBulkAll (lits k l : List (DataW H)) = l.length
  | [] => rfl
  | z :: l => by
    have h := bulk_lits k l
    unfold lits at h ⊢
    have h1 : Rows.uptoBulk (.lit (.int k z) : DataW H) = 1 := by simp [Rows.uptoBulk]
    rw [List.map_cons, Rows.uptoBulkAll, h, h1, List.length_cons, Nat.add_comm]
theorem cellsU64 : Tryz.prog.cellsOf 32 = 1 := by kernel_rfl
set_option maxRecDepth 100000 in
theorem open_u64s {W : World} {base : Nat} {v : Value} {d : DataW H} {ps : List MemPlace} (hval : Value.okWide Tryz.prog W .any base 22 v) (h : DataW.Trod enc Tryz.prog W 0 (fun _ => true) true 22 v d ps) :
    ∃ A c, ∃ xs : List Nat, v = .slice A xs.length c ∧ Sl E64u W A c xs ∧ (∀ z ∈ xs, z < 18446744073709551616) ∧ xs.length ≤ Rows.uptoBulk d := by
  obtain ⟨A, len, cap, rfl⟩ := okWide_slice Tryz.underlying22 hval
  obtain ⟨n, hn⟩ := h
  rcases open_ints Tryz.underlying22 Tryz.underlying32 cellsU64 hn with ⟨e, rfl, rfl⟩ | ⟨a, len', cap', zs, e, _, hl, hc, hzl, hx, hcell, hwf⟩
  · simp only [Value.cells, List.cons.injEq, Value.slice.injEq, and_true] at e
    obtain ⟨rfl, rfl, rfl⟩ := e
    exact ⟨none, 0, [], rfl, Sl.nil_ E64u W none (by decide), fun _ h => (by cases h), Nat.zero_le _⟩
  · simp only [Value.cells, List.cons.injEq, Value.slice.injEq, and_true] at e
    obtain ⟨rfl, rfl, rfl⟩ := e
    simp only [Prod.mk.injEq] at hx
    obtain ⟨rfl, -⟩ := hx
    rw [if_pos rfl] at hzl
    have hpos : ∀ z ∈ zs, 0 ≤ z ∧ z < 18446744073709551616 := fun z hz => by
      have h1 := hwf z hz
      have e1 : IntKind.u64.min = 0 := by decide
      have e2 : IntKind.u64.max = 18446744073709551615 := by decide
      simp [Lit.wf] at h1
      omega
    have htl : ((zs.take len).map Int.toNat).length = len := by rw [List.length_map, List.length_take]; omega
    refine ⟨some a, cap, (zs.take len).map Int.toNat, by rw [htl], ⟨by rw [htl]; exact hl, by unfold maxLen at hc; omega, fun hne => ?_⟩, fun z hz => ?_, ?_⟩
    · have hpl : 0 < len := Nat.pos_of_ne_zero (fun e => by subst e; simp at hne)
      obtain ⟨b, o, e⟩ := a
      have he : e = none := by
        have := hcell 0 (by omega)
        cases e with
        | none => rfl
        | some z =>
          simp [World.cell?, Addr.add] at this
          split at this <;> simp at this
      subst he
      refine ⟨b, o, rfl, ?_⟩
      have : ∀ k, k ≤ len → W.rangeAt b o (E64u.flat ((zs.take k).map Int.toNat)) := by
        intro k
        induction k with
        | zero => intro _; exact range_nil _ _ _
        | succ k ih =>
          intro hk
          rw [List.take_succ_eq_append_getElem (by omega), List.map_append, El.flat_app, range_app, El.flat_len]
          refine ⟨ih (by omega), ?_⟩
          have g1 := hcell k (by omega)
          rw [add_plain] at g1
          have hz := hpos zs[k] (List.getElem_mem _)
          intro j v hj
          simp only [List.length_map, List.length_take, List.map_cons, List.map_nil, El.flat_cons, El.flat_nil, List.append_nil, E64u] at hj ⊢
          match j, hj with
          | 0, hj =>
            simp at hj
            subst hj
            have h2 : min k zs.length = k := Nat.min_eq_left (by omega)
            rw [List.getD_eq_getElem?_getD, List.getElem?_eq_getElem (by omega), Option.getD_some] at g1
            simpa [h2, Int.max_eq_left hz.1] using g1
      exact this len (Nat.le_refl _)
    · obtain ⟨y, hy, rfl⟩ := List.mem_map.1 hz
      have := hpos y (List.mem_of_mem_take hy)
      omega
    · rw [Rows.uptoBulk, bulk_lits, List.length_map]
      omega
end
theorem bulk_bound {H : Type} {l : List (DataW H)} (hk : Rows.uptoSmall H l = true) : Rows.uptoBulkAll l ≤ 1048576 := of_decide_eq_true hk
end Go.Proofs.YticnefkdkkjgcaaGreatDoor

/- Patterns of floats: what is no number is told by one pattern. Plain Lean. -/
namespace Go.Proofs.YticnefkdkkjgcaaGreatDoor

/-- is the pattern of 64 bits no number's? -/
def nan64 (x : Nat) : Bool := (Ieee.double.read x).isNaN
/-- the pattern that tells a float -/
def canon (x : Nat) : Nat := if nan64 x then 9221120237041090560 else x
theorem order_self (x : Nat) : FloatKind.f64.format.order x x = if nan64 x then none else some .eq := by
  show Ieee.double.order x x = _
  unfold Ieee.Format.order nan64
  cases Ieee.double.read x with
  | number s m e =>
    show some (compare (Ieee.signed s m (e - min e e).toNat) (Ieee.signed s m (e - min e e).toNat)) = some .eq
    rw [Std.ReflCmp.compare_self (cmp := compare (α := Int))]
  | infinity s => cases s <;> rfl
  | nan s f => rfl
theorem nan_none : nan64 9221120237041090560 = true := by decide
theorem canon_canon (x : Nat) : canon (canon x) = canon x := by
  unfold canon
  cases h : nan64 x with
  | true => rw [if_pos rfl, if_pos nan_none]
  | false =>
    rw [if_neg (show ¬ (false = true) by decide), h, if_neg (show ¬ (false = true) by decide)]
theorem canon_lt {x : Nat} (h : x < 18446744073709551616) : canon x < 18446744073709551616 := by
  unfold canon
  split <;> omega
end Go.Proofs.YticnefkdkkjgcaaGreatDoor
