/- cmp.Compare, cmp.Or, ieee.Total. -/
import Derived.Laws.Cover1
import Derived.StillTail
import Derived.Deep.CutRange
import Derived.WalkKit
import Derived.LaidEql
import Derived.Stop.Asserts
import Derived.RowKitTokens
import Derived.Test.YteekndchkgdccaaGreatDoorPa2
namespace Go.Proofs.YteekndchkgdccaaGreatDoor
open Go.RowKit

set_option maxRecDepth 100000 in
theorem cmp64_ok (a b : Int) (w : World) : Calls Tryz.prog 90 #[.int .u64 (a : Int), .int .u64 (b : Int)] w fun e w' => e = .returned (.int .i64 (cmpI a b)) ∧ w' = w := by
  by_cases h1 : (a : Int) < (b : Int)
  · have e : cmpI a b = -1 := if_pos h1
    rw [e]
    have d1 : decide ((a : Int) < (b : Int)) = true := by rw [decide_eq_true_iff]; exact h1
    clear h1
    go_enter Tryz.func90, Tryz.ntmps90
    go_wp2
    go_ret
    exact ⟨rfl, rfl⟩
  · have d1 : decide ((a : Int) < (b : Int)) = false := by rw [decide_eq_false_iff_not]; exact h1
    by_cases h2 : (b : Int) < (a : Int)
    · have e : cmpI a b = 1 := by unfold cmpI; rw [if_neg h1, if_pos h2]
      rw [e]
      have d2 : decide ((a : Int) > (b : Int)) = true := by rw [decide_eq_true_iff]; exact h2
      clear h1 h2
      go_enter Tryz.func90, Tryz.ntmps90
      go_wp2
      go_ret
      exact ⟨rfl, rfl⟩
    · have e : cmpI a b = 0 := by unfold cmpI; rw [if_neg h1, if_neg h2]
      rw [e]
      have d2 : decide ((a : Int) > (b : Int)) = false := by rw [decide_eq_false_iff_not]; exact h2
      clear h1 h2
      go_enter Tryz.func90, Tryz.ntmps90
      go_wp2
      go_ret
      exact ⟨rfl, rfl⟩
set_option maxRecDepth 100000 in
theorem cmp32_ok (a b : Int) (w : World) : Calls Tryz.prog 113 #[.int .u32 (a : Int), .int .u32 (b : Int)] w fun e w' => e = .returned (.int .i64 (cmpI a b)) ∧ w' = w := by
  by_cases h1 : (a : Int) < (b : Int)
  · have e : cmpI a b = -1 := if_pos h1
    rw [e]
    have d1 : decide ((a : Int) < (b : Int)) = true := by rw [decide_eq_true_iff]; exact h1
    clear h1
    go_enter Tryz.func113, Tryz.ntmps113
    go_wp2
    go_ret
    exact ⟨rfl, rfl⟩
  · have d1 : decide ((a : Int) < (b : Int)) = false := by rw [decide_eq_false_iff_not]; exact h1
    by_cases h2 : (b : Int) < (a : Int)
    · have e : cmpI a b = 1 := by unfold cmpI; rw [if_neg h1, if_pos h2]
      rw [e]
      have d2 : decide ((a : Int) > (b : Int)) = true := by rw [decide_eq_true_iff]; exact h2
      clear h1 h2
      go_enter Tryz.func113, Tryz.ntmps113
      go_wp2
      go_ret
      exact ⟨rfl, rfl⟩
    · have e : cmpI a b = 0 := by unfold cmpI; rw [if_neg h1, if_neg h2]
      rw [e]
      have d2 : decide ((a : Int) > (b : Int)) = false := by rw [decide_eq_false_iff_not]; exact h2
      clear h1 h2
      go_enter Tryz.func113, Tryz.ntmps113
      go_wp2
      go_ret
      exact ⟨rfl, rfl⟩
set_option maxRecDepth 100000 in
theorem cmpI_ok (a b : Int) (w : World) : Calls Tryz.prog 112 #[.int .i64 (a : Int), .int .i64 (b : Int)] w fun e w' => e = .returned (.int .i64 (cmpI a b)) ∧ w' = w := by
  by_cases h1 : (a : Int) < (b : Int)
  · have e : cmpI a b = -1 := if_pos h1
    rw [e]
    have d1 : decide ((a : Int) < (b : Int)) = true := by rw [decide_eq_true_iff]; exact h1
    clear h1
    go_enter Tryz.func112, Tryz.ntmps112
    go_wp2
    go_ret
    exact ⟨rfl, rfl⟩
  · have d1 : decide ((a : Int) < (b : Int)) = false := by rw [decide_eq_false_iff_not]; exact h1
    by_cases h2 : (b : Int) < (a : Int)
    · have e : cmpI a b = 1 := by unfold cmpI; rw [if_neg h1, if_pos h2]
      rw [e]
      have d2 : decide ((a : Int) > (b : Int)) = true := by rw [decide_eq_true_iff]; exact h2
      clear h1 h2
      go_enter Tryz.func112, Tryz.ntmps112
      go_wp2
      go_ret
      exact ⟨rfl, rfl⟩
    · have e : cmpI a b = 0 := by unfold cmpI; rw [if_neg h1, if_neg h2]
      rw [e]
      have d2 : decide ((a : Int) > (b : Int)) = false := by rw [decide_eq_false_iff_not]; exact h2
      clear h1 h2
      go_enter Tryz.func112, Tryz.ntmps112
      go_wp2
      go_ret
      exact ⟨rfl, rfl⟩
set_option maxRecDepth 100000 in
theorem cmp8_ok (a b : Int) (w : World) : Calls Tryz.prog 91 #[.int .i8 (a : Int), .int .i8 (b : Int)] w fun e w' => e = .returned (.int .i64 (cmpI a b)) ∧ w' = w := by
  by_cases h1 : (a : Int) < (b : Int)
  · have e : cmpI a b = -1 := if_pos h1
    rw [e]
    have d1 : decide ((a : Int) < (b : Int)) = true := by rw [decide_eq_true_iff]; exact h1
    clear h1
    go_enter Tryz.func91, Tryz.ntmps91
    go_wp2
    go_ret
    exact ⟨rfl, rfl⟩
  · have d1 : decide ((a : Int) < (b : Int)) = false := by rw [decide_eq_false_iff_not]; exact h1
    by_cases h2 : (b : Int) < (a : Int)
    · have e : cmpI a b = 1 := by unfold cmpI; rw [if_neg h1, if_pos h2]
      rw [e]
      have d2 : decide ((a : Int) > (b : Int)) = true := by rw [decide_eq_true_iff]; exact h2
      clear h1 h2
      go_enter Tryz.func91, Tryz.ntmps91
      go_wp2
      go_ret
      exact ⟨rfl, rfl⟩
    · have e : cmpI a b = 0 := by unfold cmpI; rw [if_neg h1, if_neg h2]
      rw [e]
      have d2 : decide ((a : Int) > (b : Int)) = false := by rw [decide_eq_false_iff_not]; exact h2
      clear h1 h2
      go_enter Tryz.func91, Tryz.ntmps91
      go_wp2
      go_ret
      exact ⟨rfl, rfl⟩
set_option maxRecDepth 100000 in
theorem cmpKind_ok (a b : Int) (w : World) : Calls Tryz.prog 89 #[.int .i8 (a : Int), .int .i8 (b : Int)] w fun e w' => e = .returned (.int .i64 (cmpI a b)) ∧ w' = w := by
  by_cases h1 : (a : Int) < (b : Int)
  · have e : cmpI a b = -1 := if_pos h1
    rw [e]
    have d1 : decide ((a : Int) < (b : Int)) = true := by rw [decide_eq_true_iff]; exact h1
    clear h1
    go_enter Tryz.func89, Tryz.ntmps89
    go_wp2
    go_ret
    exact ⟨rfl, rfl⟩
  · have d1 : decide ((a : Int) < (b : Int)) = false := by rw [decide_eq_false_iff_not]; exact h1
    by_cases h2 : (b : Int) < (a : Int)
    · have e : cmpI a b = 1 := by unfold cmpI; rw [if_neg h1, if_pos h2]
      rw [e]
      have d2 : decide ((a : Int) > (b : Int)) = true := by rw [decide_eq_true_iff]; exact h2
      clear h1 h2
      go_enter Tryz.func89, Tryz.ntmps89
      go_wp2
      go_ret
      exact ⟨rfl, rfl⟩
    · have e : cmpI a b = 0 := by unfold cmpI; rw [if_neg h1, if_neg h2]
      rw [e]
      have d2 : decide ((a : Int) > (b : Int)) = false := by rw [decide_eq_false_iff_not]; exact h2
      clear h1 h2
      go_enter Tryz.func89, Tryz.ntmps89
      go_wp2
      go_ret
      exact ⟨rfl, rfl⟩
theorem lex_spec : ∀ (x y : List UInt8), lexN (x.map (·.toNat)) (y.map (·.toNat)) = if Op.bytesLess x y = true then -1 else if (x == y) = true then 0 else 1
  | [], [] => rfl
  | [], _ :: _ => rfl
  | _ :: _, [] => rfl
  | a :: x, b :: y => by
    have ih := lex_spec x y
    simp only [List.map_cons, lexN, Op.bytesLess]
    by_cases h : a = b
    · subst h
      have h2 : ¬ a < a := by simp
      simp only [if_true, ih, h2, decide_false, Bool.false_or, beq_self_eq_true, Bool.true_and, List.cons_beq_cons]
    · have hn : ¬ a.toNat = b.toNat := fun e => h (UInt8.toNat_inj.1 e)
      have hb : (a == b) = false := by simpa using h
      rw [if_neg hn]
      simp only [hb, Bool.false_and, Bool.or_false, List.cons_beq_cons, decide_eq_true_iff]
      unfold cmpI
      by_cases h3 : a < b
      · have : (a.toNat : Int) < (b.toNat : Int) := by have := UInt8.lt_iff_toNat_lt.1 h3; omega
        rw [if_pos this, if_pos h3]
      · have h4 : ¬ (a.toNat : Int) < (b.toNat : Int) := fun e => h3 (UInt8.lt_iff_toNat_lt.2 (by omega))
        rw [if_neg h4, if_neg h3, if_pos (by omega)]
        simp
set_option maxRecDepth 100000 in
theorem cmpS_ok (a b : ByteArray) (w : World) : Calls Tryz.prog 94 #[.string a, .string b] w fun e w' => e = .returned (.int .i64 (lexN (bl a) (bl b))) ∧ w' = w := by
  have hs := lex_spec a.data.toList b.data.toList
  rw [show a.data.toList.map (·.toNat) = bl a from rfl, show b.data.toList.map (·.toNat) = bl b from rfl, ← ByteArray.toList_eq, ← ByteArray.toList_eq] at hs
  rw [hs]
  clear hs
  have ha : (a.toList == a.toList) = true := by simp
  have hb : (b.toList == b.toList) = true := by simp
  by_cases h1 : Op.bytesLess a.toList b.toList = true
  · rw [if_pos h1]
    go_enter Tryz.func94, Tryz.ntmps94
    go_wp2
    go_ret
    exact ⟨rfl, rfl⟩
  · have h1f : Op.bytesLess a.toList b.toList = false := by simpa using h1
    rw [if_neg h1]
    clear h1
    by_cases h2 : (a.toList == b.toList) = true
    · rw [if_pos h2]
      go_enter Tryz.func94, Tryz.ntmps94
      go_wp2
      go_ret
      exact ⟨rfl, rfl⟩
    · have h2f : (a.toList == b.toList) = false := by simpa using h2
      rw [if_neg h2]
      clear h2
      go_enter Tryz.func94, Tryz.ntmps94
      go_wp2
      go_ret
      exact ⟨rfl, rfl⟩

/-- an int -/
def EZ : El Int where
  sz := 1
  pos := by decide
  cells := fun x => [.int .i64 x]
  len := fun _ => rfl
  one := fun x v h => by simp at h; subst h; rfl
  val := fun x => .int .i64 x
/-- the first that is not 0 -/
def firstZ : List Int → Int
  | [] => 0
  | x :: l => orI x (firstZ l)
set_option maxRecDepth 100000 in
theorem cmpOr_ok (A : Option Addr) (c L : Nat) (l : List Int) (w : World) (hL : l.length = L) (h : Sl EZ w A c l) :
    Calls Tryz.prog 88 #[.slice A L c] w fun e w' => e = .returned (.int .i64 (firstZ l)) ∧ w' = w := by
  have H := Lib.hid h
  have HL := Lib.hid hL
  have hle := h.le
  have hcc := h.cap
  rw [hL] at hle
  clear h hL
  go_enter Tryz.func88, Tryz.ntmps88
  go_wp2_with (fail)
  go_loopw [5, 8] (fun u5 u8 wr => ∃ i : Nat, i ≤ L ∧ u8 = .int .i64 (i : Int) ∧ Hid (firstZ (l.drop i) = firstZ l) ∧ Hid (wr = w)) (fun _ u8 _ => L - (intOf u8).toNat)
  case atStart => exact ⟨0, Nat.zero_le _, rfl, Lib.hid rfl, Lib.hid rfl⟩
  case round =>
    obtain ⟨i, hi, rfl, HF, HW⟩ := hrel
    have HW2 := HW.out
    subst HW2
    rcases Nat.lt_or_ge i L with hlt | hge
    · have hd : decide ((i : Int) < (L : Int)) = true := by rw [decide_eq_true_iff]; omega
      have hi0 : (0 : Int) ≤ (i : Int) := by omega
      have hi1 : (i : Int) < (L : Int) := by omega
      have hil : i < l.length := by rw [HL.out]; exact hlt
      obtain ⟨b1, o1, rfl, hx⟩ := H.out.elem (i := i) hil
      have hx1 := hx 0 _ rfl
      obtain ⟨x, HX⟩ : ∃ x, Hid (l[i] = x) := ⟨_, Lib.hid rfl⟩
      simp only [EZ, Nat.add_zero, Nat.mul_one] at hx1
      rw [HX.out] at hx1
      have HS : Hid (firstZ (l.drop i) = orI x (firstZ (l.drop (i + 1)))) := by
        unfold Hid
        rw [List.drop_eq_getElem_cons hil, firstZ, HX.out]
      have i1 : IntKind.i64.wrap ((i : Int) + 1) = (i : Int) + 1 := by rw [IntWalk.i64_left, IntWalk.wrap64_in _ ⟨by omega, by omega⟩]
      clear hx
      by_cases hz : x = 0
      · subst hz
        go_wp2
        refine ⟨⟨i + 1, by omega, rfl, ?_, Lib.hid trivial⟩, by simp [intOf]; omega⟩
        unfold Hid
        rw [← HF.out, HS.out]; rfl
      · have hzd : (x == 0) = false := by rw [beq_eq_false_iff_ne]; exact hz
        have HR : Hid (firstZ l = x) := by unfold Hid; rw [← HF.out, HS.out, orI_ne _ hz]
        clear hz
        go_wp2
        go_ret
        rw [HR.out]
        exact ⟨rfl, rfl⟩
    · obtain rfl : i = L := by omega
      have hd : decide ((i : Int) < (i : Int)) = false := by rw [decide_eq_false_iff_not]; omega
      have HR : Hid (firstZ l = 0) := by unfold Hid; rw [← HF.out, List.drop_eq_nil_of_le (by rw [HL.out]; exact Nat.le_refl _)]; rfl
      go_wp2
      go_ret
      rw [HR.out]
      exact ⟨rfl, rfl⟩
set_option maxRecDepth 100000 in
theorem total64_ok (x y B : Nat) (hx : x < 18446744073709551616) (hy : y < 18446744073709551616) (sa : Nat → Addr) (w : World) (g : GL B sa w) :
    Calls Tryz.prog 93 #[.int .u64 (x : Int), .int .u64 (y : Int)] w fun e w' => e = .returned (.int .i64 (total64 x y)) ∧ Keep nob w w' := by
  have HX := Lib.hid (split64_ok x B hx sa w g)
  have HY := Lib.hid (fun (wv : World) (hk : Keep nob w wv) => split64_ok y B hy sa wv (g.keep hk (fun _ h => h.elim)))
  have HC := Lib.hid cmp64_ok
  unfold total64
  obtain ⟨a, HA⟩ : ∃ a, Hid (x % 9223372036854775808 = a) := ⟨_, Lib.hid rfl⟩
  obtain ⟨b, HB⟩ : ∃ b, Hid (y % 9223372036854775808 = b) := ⟨_, Lib.hid rfl⟩
  rw [HA.out] at HX
  rw [HB.out] at HY
  clear g
  by_cases h1 : 9223372036854775808 ≤ x
  · rw [if_pos h1]
    rw [decide_eq_true h1] at HX
    by_cases h2 : 9223372036854775808 ≤ y
    · rw [if_pos h2]
      rw [decide_eq_true h2] at HY
      clear h1 h2
      go_enter Tryz.func93, Tryz.ntmps93
      go_wp2_with (first | (go_at_call 69; refine (HY.out _ HK1.out).mono ?_; rintro e w2 ⟨rfl, hk2⟩; have HK2 := Lib.hid (HK1.out.then_ hk2); clear hk2) | (go_at_call 69; go_must (refine HX.out.mono ?_); rintro e w1 ⟨rfl, hk1⟩; have HK1 := Lib.hid hk1; clear hk1) | (go_at_call 90; go_must (refine (HC.out _ _ _).mono ?_); rintro e w3 ⟨rfl, rfl⟩))
      go_ret
      exact ⟨rfl, HK2.out⟩
    · rw [if_neg h2]
      rw [decide_eq_false h2] at HY
      clear h1 h2
      go_enter Tryz.func93, Tryz.ntmps93
      go_wp2_with (first | (go_at_call 69; refine (HY.out _ HK1.out).mono ?_; rintro e w2 ⟨rfl, hk2⟩; have HK2 := Lib.hid (HK1.out.then_ hk2); clear hk2) | (go_at_call 69; go_must (refine HX.out.mono ?_); rintro e w1 ⟨rfl, hk1⟩; have HK1 := Lib.hid hk1; clear hk1) | (go_at_call 90; go_must (refine (HC.out _ _ _).mono ?_); rintro e w3 ⟨rfl, rfl⟩))
      go_ret
      exact ⟨rfl, HK2.out⟩
  · rw [if_neg h1]
    rw [decide_eq_false h1] at HX
    by_cases h2 : 9223372036854775808 ≤ y
    · rw [if_pos h2]
      rw [decide_eq_true h2] at HY
      clear h1 h2
      go_enter Tryz.func93, Tryz.ntmps93
      go_wp2_with (first | (go_at_call 69; refine (HY.out _ HK1.out).mono ?_; rintro e w2 ⟨rfl, hk2⟩; have HK2 := Lib.hid (HK1.out.then_ hk2); clear hk2) | (go_at_call 69; go_must (refine HX.out.mono ?_); rintro e w1 ⟨rfl, hk1⟩; have HK1 := Lib.hid hk1; clear hk1) | (go_at_call 90; go_must (refine (HC.out _ _ _).mono ?_); rintro e w3 ⟨rfl, rfl⟩))
      go_ret
      exact ⟨rfl, HK2.out⟩
    · rw [if_neg h2]
      rw [decide_eq_false h2] at HY
      clear h1 h2
      go_enter Tryz.func93, Tryz.ntmps93
      go_wp2_with (first | (go_at_call 69; refine (HY.out _ HK1.out).mono ?_; rintro e w2 ⟨rfl, hk2⟩; have HK2 := Lib.hid (HK1.out.then_ hk2); clear hk2) | (go_at_call 69; go_must (refine HX.out.mono ?_); rintro e w1 ⟨rfl, hk1⟩; have HK1 := Lib.hid hk1; clear hk1) | (go_at_call 90; go_must (refine (HC.out _ _ _).mono ?_); rintro e w3 ⟨rfl, rfl⟩))
      go_ret
      exact ⟨rfl, HK2.out⟩
end Go.Proofs.YteekndchkgdccaaGreatDoor

/- nat.Cmp, whole.Cmp. -/
namespace Go.Proofs.YteekndchkgdccaaGreatDoor
open Go.RowKit

theorem cmpRev_step {r r' : List Nat} {i : Nat} (h : i < r.length) (h' : i < r'.length) : cmpRev (r.drop i) (r'.drop i) = if r[i] = r'[i] then cmpRev (r.drop (i + 1)) (r'.drop (i + 1)) else cmpI r[i] r'[i] := by
  rw [List.drop_eq_getElem_cons h, List.drop_eq_getElem_cons h', cmpRev]
theorem rev_get {l : List Nat} {k i : Nat} (hk : (cutL l).length = k) (hi : i < k) : (cutL l).reverse[i]'(by rw [List.length_reverse, hk]; exact hi) = l.getD (k - 1 - i) 0 := by
  have hc := cutL_len l
  have h1 := getD_cut (l := l) (i := k - 1 - i) (by omega)
  rw [List.getElem?_eq_getElem (by omega)] at h1
  rw [List.getElem_reverse]
  simp only [hk]
  simpa using h1
theorem sl_cell {w : World} {b o c i x : Nat} {xs : List Nat} (h : Sl EU w (some ⟨b, o, none⟩) c xs) (hi : i < xs.length) (hx : xs.getD i 0 = x) : w.cell? ⟨b, o + i, none⟩ = some (.int .u32 (x : Int)) := by
  obtain ⟨b1, o1, e1, hr⟩ := h.elem (i := i) hi
  simp only [Option.some.injEq, Addr.mk.injEq, and_true] at e1
  obtain ⟨rfl, rfl⟩ := e1
  have h1 := hr 0 _ rfl
  simp only [EU, Nat.add_zero, Nat.mul_one] at h1
  rw [h1, show xs[i] = x by rw [← hx, List.getD_eq_getElem?_getD, List.getElem?_eq_getElem hi]; rfl]
set_option maxRecDepth 100000 in
theorem nCmp_ok (A A' : Option Addr) (c c' L L' : Nat) (l l' : List Nat) (w : World) (hL : l.length = L) (hL' : l'.length = L') (h : Sl EU w A c l) (h' : Sl EU w A' c' l') (hl : L ≤ 1000000000) (_hl' : L' ≤ 1000000000) :
    Calls Tryz.prog 105 #[.slice A L c, .slice A' L' c'] w fun e w' => e = .returned (.int .i64 (cmpL (cutL l) (cutL l'))) ∧ Keep nob w w' := by
  have hC := cut_ok A c L l w hL h
  have hC' := cut_ok A' c' L' l' w hL' h'
  have hcl := cutL_len l
  have hcl' := cutL_len l'
  have hle := cutN_le l L
  have hle' := cutN_le l' L'
  rw [hL] at hcl
  rw [hL'] at hcl'
  obtain ⟨k, HK⟩ : ∃ k, Hid (cutN l L = k) := ⟨_, Lib.hid rfl⟩
  obtain ⟨k', HK'⟩ : ∃ k', Hid (cutN l' L' = k') := ⟨_, Lib.hid rfl⟩
  rw [HK.out] at hC hle hcl
  rw [HK'.out] at hC' hle' hcl'
  have HC := Lib.hid hC
  have HC' := Lib.hid hC'
  have HI := Lib.hid (fun (a b : Int) (wv : World) => cmpI_ok a b wv)
  clear hC hC'
  by_cases hkk : k = k'
  · subst hkk
    have hR : cmpL (cutL l) (cutL l') = cmpRev (cutL l).reverse (cutL l').reverse := by unfold cmpL; rw [if_pos (by rw [hcl, hcl'])]
    rw [hR]
    obtain ⟨T, HT⟩ : ∃ T, Hid (cmpRev (cutL l).reverse (cutL l').reverse = T) := ⟨_, Lib.hid rfl⟩
    rw [HT.out]
    have H := Lib.hid h
    have H' := Lib.hid h'
    have HCL := Lib.hid hcl
    have HCL' := Lib.hid hcl'
    have HLL := Lib.hid hL
    have HLL' := Lib.hid hL'
    clear hR h h' hcl hcl' hL hL'
    go_enter Tryz.func105, Tryz.ntmps105
    go_wp2_with (first | (go_at_call 56; (with_reducible refine HC.out.mono ?_); rintro e w1 ⟨rfl, rfl⟩) | (go_at_call 56; (with_reducible refine HC'.out.mono ?_); rintro e w1 ⟨rfl, rfl⟩))
    go_loopw [5, 6, 23] (fun u5 u6 u23 wr => ∃ i : Nat, i ≤ k ∧ u23 = .int .i64 (i : Int) ∧ Hid (cmpRev ((cutL l).reverse.drop i) ((cutL l').reverse.drop i) = T) ∧ Hid (Keep nob w1 wr)) (fun _ _ u23 _ => k - (intOf u23).toNat)
    case atStart => exact ⟨0, Nat.zero_le _, rfl, HT, Lib.hid (Keep.refl _ _)⟩
    case round =>
      obtain ⟨i, hi, rfl, HG, HKW⟩ := hrel
      rcases Nat.lt_or_ge i k with hlt | hge
      · have hd : decide ((i : Int) < (k : Int)) = true := by rw [decide_eq_true_iff]; omega
        obtain ⟨j, HJ⟩ : ∃ j, Hid (k - 1 - i = j) := ⟨_, Lib.hid rfl⟩
        have hjk : j < k := by rw [← HJ.out]; omega
        have j2 : IntKind.i64.wrap ((k : Int) - 1) = (k : Int) - 1 := by rw [IntWalk.i64_left, IntWalk.wrap64_in _ ⟨by omega, by omega⟩]
        have j3' : (k : Int) - 1 - (i : Int) = (j : Int) := by rw [← HJ.out]; omega
        have j3 : IntKind.i64.wrap ((k : Int) - 1 - (i : Int)) = (j : Int) := by rw [j3', IntWalk.i64_left, IntWalk.wrap64_in _ ⟨by omega, by omega⟩]
        have j4 : IntKind.i64.wrap (j : Int) = (j : Int) := by rw [IntWalk.i64_left, IntWalk.wrap64_in _ ⟨by omega, by omega⟩]
        have j5 : IntKind.i64.wrap ((i : Int) + 1) = (i : Int) + 1 := by rw [IntWalk.i64_left, IntWalk.wrap64_in _ ⟨by omega, by omega⟩]
        have hj0 : (0 : Int) ≤ (j : Int) := by omega
        have hj1 : (j : Int) < (k : Int) := by omega
        obtain ⟨x, HX⟩ : ∃ x, Hid (l.getD j 0 = x) := ⟨_, Lib.hid rfl⟩
        obtain ⟨y, HY⟩ : ∃ y, Hid (l'.getD j 0 = y) := ⟨_, Lib.hid rfl⟩
        have hln : l ≠ [] := fun e => by have := HLL.out; rw [e] at this; simp at this; omega
        have hln' : l' ≠ [] := fun e => by have := HLL'.out; rw [e] at this; simp at this; omega
        obtain ⟨b, o, rfl, -⟩ := H.out.at_ hln
        obtain ⟨b', o', rfl, -⟩ := H'.out.at_ hln'
        have HCE : Hid (∀ w', Kept wr w' → w'.cell? ⟨b, o + j, none⟩ = some (.int .u32 (x : Int)) ∧ w'.cell? ⟨b', o' + j, none⟩ = some (.int .u32 (y : Int))) := Lib.hid (fun w' hk =>
          ⟨sl_cell (H.out.keep (HKW.out.then_ hk) (fun ⟨_, _, h⟩ => h)) (by rw [HLL.out]; omega) HX.out, sl_cell (H'.out.keep (HKW.out.then_ hk) (fun ⟨_, _, h⟩ => h)) (by rw [HLL'.out]; omega) HY.out⟩)
        have HST : Hid ((if x = y then cmpRev ((cutL l).reverse.drop (i + 1)) ((cutL l').reverse.drop (i + 1)) else cmpI x y) = T) := by
          unfold Hid
          have h1 := cmpRev_step (r := (cutL l).reverse) (r' := (cutL l').reverse) (i := i) (by rw [List.length_reverse, HCL.out]; exact hlt) (by rw [List.length_reverse, HCL'.out]; exact hlt)
          rw [rev_get HCL.out hlt, rev_get HCL'.out hlt, HJ.out, HX.out, HY.out] at h1
          rw [← HG.out, h1]
        have HC3 := Lib.hid (cmp32_ok (x : Int) (y : Int))
        clear hln hln'
        go_upto_region 8 with (fail)
        refine wp_region_kept (by kernel_rfl) (by kernel_rfl) (QV.out ?_)
        repeat (first
          | (refine kq_skip (by rfl) (fun K hK => ?_); go_simp; refine hK _ ?_; clear hK K)
          | (refine kq_want (by rfl) (fun K hK => ?_); first
              | (refine BigFrame.quiet_move _ rfl ?_; go_simp; refine hK _ ?_; clear hK K)
              | (refine kq_still ?_ (fun w' hw' => ?_) ?_; rotate_left; (obtain ⟨c1, c2⟩ := HCE.out w' hw'; go_simp; first | done | exact rfl); go_simp; refine hK _ ?_; clear hK K)
              | (go_simp; apply Exists.intro; refine ⟨fun w' hw' => ?_, hK _ ?_⟩; (first | (fail)); rintro e w'' ⟨rfl, hk''⟩; exact ⟨rfl, hw'.then_ hk''⟩; clear hK K)))
        refine ⟨wpQuiet_nil ?_⟩
        intro w9 hk9
        have HK9 := Lib.hid hk9
        clear hk9
        by_cases hxy : x = y
        · rw [if_pos hxy] at HST
          subst hxy
          go_wp2
          exact ⟨⟨i + 1, by omega, rfl, HST, Lib.hid (HKW.out.then_ HK9.out)⟩, by simp [intOf]; omega⟩
        · rw [if_neg hxy] at HST
          have hxd : ((x : Int) == (y : Int)) = false := by rw [beq_eq_false_iff_ne]; omega
          rw [HST.out] at HC3
          clear hxy
          go_upto_region 9 with (fail)
          refine wp_region_kept (by kernel_rfl) (by kernel_rfl) (QV.out ?_)
          repeat (first
            | (refine kq_skip (by rfl) (fun K hK => ?_); go_simp; refine hK _ ?_; clear hK K)
            | (refine kq_want (by rfl) (fun K hK => ?_); first
                | (refine BigFrame.quiet_move _ rfl ?_; go_simp; refine hK _ ?_; clear hK K)
                | (refine kq_still ?_ (fun w' hw' => ?_) ?_; rotate_left; (obtain ⟨c1, c2⟩ := HCE.out w' (HK9.out.then_ hw'); go_simp; first | done | exact rfl); go_simp; refine hK _ ?_; clear hK K)
                | (go_simp; apply Exists.intro; refine ⟨fun w' hw' => ?_, hK _ ?_⟩; (first | (go_at_call 113; refine (HC3.out w').mono ?_; rintro e w'' ⟨rfl, rfl⟩; exact ⟨rfl, hw'⟩)); clear hK K)))
          refine ⟨wpQuiet_nil ?_⟩
          intro w10 hk10
          go_wp2
          go_ret
          exact ⟨rfl, (HKW.out.then_ HK9.out).then_ hk10⟩
      · obtain rfl : i = k := by omega
        have hd : decide ((i : Int) < (i : Int)) = false := by rw [decide_eq_false_iff_not]; omega
        have HT0 : Hid (T = 0) := by
          unfold Hid
          rw [← HG.out, List.drop_eq_nil_of_le (by rw [List.length_reverse, HCL.out]; exact Nat.le_refl _)]
          rfl
        go_wp2
        go_ret
        rw [HT0.out]
        exact ⟨rfl, HKW.out⟩
  · have hR : cmpL (cutL l) (cutL l') = cmpI (k : Int) (k' : Int) := by unfold cmpL; rw [if_neg (by rw [hcl, hcl']; exact hkk), hcl, hcl']
    rw [hR]
    have hd : ((k : Int) == (k' : Int)) = false := by rw [beq_eq_false_iff_ne]; omega
    clear hR hkk h h' hcl hcl'
    go_enter Tryz.func105, Tryz.ntmps105
    go_wp2_with (first | (go_at_call 56; (with_reducible refine HC.out.mono ?_); rintro e w1 ⟨rfl, rfl⟩) | (go_at_call 56; (with_reducible refine HC'.out.mono ?_); rintro e w1 ⟨rfl, rfl⟩) | (go_at_call 112; go_must (refine (HI.out _ _ _).mono ?_); rintro e w2 ⟨rfl, rfl⟩))
    go_ret
    exact ⟨rfl, Keep.refl _ _⟩
end Go.Proofs.YteekndchkgdccaaGreatDoor

/- whole.Cmp. -/
namespace Go.Proofs.YteekndchkgdccaaGreatDoor
open Go.RowKit

theorem cutL_nrm_self {l : List Nat} (h : Nrm l) : cutL l = l := by
  by_cases hn : l = []
  · subst hn; rfl
  · have h1 := h.last hn
    have hp : 0 < l.length := List.length_pos_iff.2 hn
    obtain ⟨n, hln⟩ : ∃ n, l.length = n + 1 := ⟨l.length - 1, by omega⟩
    have h2 : cutN l l.length = l.length := by
      rw [hln, cutN, if_neg]
      rw [List.getD_eq_getElem?_getD, List.getElem?_eq_getElem (by omega)]
      rw [List.getLast_eq_getElem] at h1
      simpa [hln] using h1
    unfold cutL
    rw [h2, List.take_length]
theorem cutL_idem (l : List Nat) : cutL (cutL l) = cutL l := cutL_nrm_self (cutL_nrm l)
set_option maxRecDepth 100000 in
theorem wCmp_ok (neg neg' : Bool) (A A' : Option Addr) (c c' L L' : Nat) (l l' : List Nat) (w : World) (hL : l.length = L) (hL' : l'.length = L') (h : Sl EU w A c l) (h' : Sl EU w A' c' l') (hl : L ≤ 1000000000) (hl' : L' ≤ 1000000000) :
    Calls Tryz.prog 92 #[intV neg A L c, intV neg' A' L' c'] w fun e w' => e = .returned (.int .i64 (cmpW neg l neg' l')) ∧ Keep nob w w' := by
  obtain ⟨w0, HW0⟩ : ∃ w0, Hid ((w.alloc (.cells #[.bool neg, .slice A L c] 32)).alloc (.cells #[.bool neg', .slice A' L' c'] 32) = w0) := ⟨_, Lib.hid rfl⟩
  have HK0 : Hid (Keep nob w w0) := by unfold Hid; rw [← HW0.out]; exact ((Keep.refl _ _).alloc _).alloc _
  have c0 : w0.cell? ⟨w.heap.size, 0, none⟩ = some (.bool neg) := by rw [← HW0.out]; simp
  have c1 : w0.cell? ⟨w.heap.size, 1, none⟩ = some (.slice A L c) := by rw [← HW0.out]; simp
  have c2 : w0.cell? ⟨w.heap.size + 1, 0, none⟩ = some (.bool neg') := by rw [← HW0.out]; simp
  have c3 : w0.cell? ⟨w.heap.size + 1, 1, none⟩ = some (.slice A' L' c') := by rw [← HW0.out]; simp
  have HS1 := Lib.hid (fun (wv : World) (hk : Keep nob w0 wv) => wsigned_ok neg A c L l wv hL (h.keep (HK0.out.then_ hk) (fun ⟨_, _, h⟩ => h)) hl)
  have HS2 := Lib.hid (fun (wv : World) (hk : Keep nob w0 wv) => wsigned_ok neg' A' c' L' l' wv hL' (h'.keep (HK0.out.then_ hk) (fun ⟨_, _, h⟩ => h)) hl')
  have hcl := cutL_len l
  have hcl' := cutL_len l'
  have hle := cutN_le l L
  have hle' := cutN_le l' L'
  rw [hL] at hcl
  rw [hL'] at hcl'
  obtain ⟨k, HKN⟩ : ∃ k, Hid (cutN l L = k) := ⟨_, Lib.hid rfl⟩
  obtain ⟨k', HKN'⟩ : ∃ k', Hid (cutN l' L' = k') := ⟨_, Lib.hid rfl⟩
  unfold cmpW
  rw [hL, hL', HKN.out, HKN'.out]
  rw [HKN.out] at HS1 hcl hle
  rw [HKN'.out] at HS2 hcl' hle'
  obtain ⟨s, HSG⟩ : ∃ s, Hid (sgn neg k = s) := ⟨_, Lib.hid rfl⟩
  obtain ⟨t, HTG⟩ : ∃ t, Hid (sgn neg' k' = t) := ⟨_, Lib.hid rfl⟩
  have hs := sgn_cases neg k
  have hcc := cmpL_cases (cutL l) (cutL l')
  rw [HSG.out] at HS1 hs ⊢
  rw [HTG.out] at HS2 ⊢
  have HC := Lib.hid (fun (B B' : Option Addr) (wv : World) (g : Sl EU wv B k (cutL l)) (g' : Sl EU wv B' k' (cutL l')) => nCmp_ok B B' k k' k k' (cutL l) (cutL l') wv hcl hcl' g g' (by omega) (by omega))
  rw [cutL_idem, cutL_idem] at HC
  obtain ⟨q, HQ⟩ : ∃ q, Hid (cmpL (cutL l) (cutL l') = q) := ⟨_, Lib.hid rfl⟩
  rw [HQ.out] at HC hcc ⊢
  have hsz : (w.alloc (.cells #[.bool neg, .slice A L c] 32)).heap.size = w.heap.size + 1 := by simp
  unfold intV at HS1 HS2 ⊢
  clear h h' hL hL' hcl hcl'
  by_cases h1 : s < t
  · rw [if_pos h1]
    have d1 : decide (s < t) = true := by rw [decide_eq_true_iff]; exact h1
    clear h1 hcc hs
    go_enter Tryz.func92, Tryz.ntmps92
    go_upto_region 1 with (fail)
    rw [HW0.out]
    go_wp2_with (first | (go_at_call 37; (with_reducible refine (HS1.out _ (Keep.refl _ _)).mono ?_); rintro e w1 ⟨hk1, A1, rfl, hs1, -⟩; have HK1 := Lib.hid hk1; have HSL1 := Lib.hid hs1; have c2 := hk1.cell c2 (fun h => h); have c3 := hk1.cell c3 (fun h => h); clear hk1 hs1) | (go_at_call 37; (with_reducible refine (HS2.out _ HK1.out).mono ?_); rintro e w2 ⟨hk2, A2, rfl, hs2, -⟩; have HSL2 := Lib.hid hs2; have HSL1 := Lib.hid (HSL1.out.keep hk2 (fun ⟨_, _, h⟩ => h)); have HK2 := Lib.hid (HK1.out.then_ hk2); clear hk2 hs2) | (go_at_call 105; go_must (refine (HC.out _ _ _ HSL1.out HSL2.out).mono ?_); rintro e w5 ⟨rfl, hk5⟩))
    go_ret
    exact ⟨rfl, HK0.out.then_ HK2.out⟩
  · rw [if_neg h1]
    have d1 : decide (s < t) = false := by rw [decide_eq_false_iff_not]; exact h1
    by_cases h2 : t < s
    · rw [if_pos h2]
      have d2 : decide (s > t) = true := by rw [decide_eq_true_iff]; exact h2
      clear h1 h2 hcc hs
      go_enter Tryz.func92, Tryz.ntmps92
      go_upto_region 1 with (fail)
      rw [HW0.out]
      go_wp2_with (first | (go_at_call 37; (with_reducible refine (HS1.out _ (Keep.refl _ _)).mono ?_); rintro e w1 ⟨hk1, A1, rfl, hs1, -⟩; have HK1 := Lib.hid hk1; have HSL1 := Lib.hid hs1; have c2 := hk1.cell c2 (fun h => h); have c3 := hk1.cell c3 (fun h => h); clear hk1 hs1) | (go_at_call 37; (with_reducible refine (HS2.out _ HK1.out).mono ?_); rintro e w2 ⟨hk2, A2, rfl, hs2, -⟩; have HSL2 := Lib.hid hs2; have HSL1 := Lib.hid (HSL1.out.keep hk2 (fun ⟨_, _, h⟩ => h)); have HK2 := Lib.hid (HK1.out.then_ hk2); clear hk2 hs2) | (go_at_call 105; go_must (refine (HC.out _ _ _ HSL1.out HSL2.out).mono ?_); rintro e w5 ⟨rfl, hk5⟩))
      go_ret
      exact ⟨rfl, HK0.out.then_ HK2.out⟩
    · rw [if_neg h2]
      have d2 : decide (s > t) = false := by rw [decide_eq_false_iff_not]; exact h2
      have i1 : IntKind.i64.wrap s = s := by rw [IntWalk.i64_left, IntWalk.wrap64_in _ ⟨by omega, by omega⟩]
      have i2 : IntKind.i64.wrap (s * q) = s * q := by
        rw [IntWalk.i64_left, IntWalk.wrap64_in]
        rcases hs with h | h | h <;> rcases hcc with g | g | g <;> rw [h, g] <;> decide
      clear h1 h2 hcc hs
      go_enter Tryz.func92, Tryz.ntmps92
      go_upto_region 1 with (fail)
      rw [HW0.out]
      go_wp2_with (first | (go_at_call 37; (with_reducible refine (HS1.out _ (Keep.refl _ _)).mono ?_); rintro e w1 ⟨hk1, A1, rfl, hs1, -⟩; have HK1 := Lib.hid hk1; have HSL1 := Lib.hid hs1; have c2 := hk1.cell c2 (fun h => h); have c3 := hk1.cell c3 (fun h => h); clear hk1 hs1) | (go_at_call 37; (with_reducible refine (HS2.out _ HK1.out).mono ?_); rintro e w2 ⟨hk2, A2, rfl, hs2, -⟩; have HSL2 := Lib.hid hs2; have HSL1 := Lib.hid (HSL1.out.keep hk2 (fun ⟨_, _, h⟩ => h)); have HK2 := Lib.hid (HK1.out.then_ hk2); clear hk2 hs2) | (go_at_call 105; go_must (refine (HC.out _ _ _ HSL1.out HSL2.out).mono ?_); rintro e w5 ⟨rfl, hk5⟩))
      go_ret
      exact ⟨rfl, (HK0.out.then_ HK2.out).then_ hk5⟩
end Go.Proofs.YteekndchkgdccaaGreatDoor

/- A region that draws its order: a head of operations and calls that keep all memory that there was, then a forced tail that waits for all of them. -/
namespace Go.Proofs.YteekndchkgdccaaGreatDoor
open Go.RowKit
section
variable {P : Program} {ops : Array Oper} {md : Region.Mode} {C : World → Prop}

/-- whatever order of the head is picked; only the head's operations come up -/
def headQ (P : Program) (md : Region.Mode) (ops : Array Oper) (C : World → Prop) (n : Nat) (L : Array Bool → Act → Prop) : Nat → Array Bool → Act → Prop
  | 0, listed, a => L listed a
  | f + 1, listed, a => Region.ready md ops listed ≠ [] ∧ ∀ i ∈ Region.ready md ops listed, i < n ∧ qOp P ops C i (headQ P md ops C n L f (listed.setIfInBounds i true)) a
theorem wpAny_of_headQ {n g : Nat} {L : Array Bool → Act → Prop} {Q : Exit → Act → World → Prop} (hL : ∀ listed a w, C w → L listed a → wpAny P md ops Q g listed a w) :
    ∀ (f : Nat) (listed : Array Bool) (a : Act) (w : World), C w → headQ P md ops C n L f listed a → wpAny P md ops Q (f + g) listed a w
  | 0, listed, a, w, hw, h => by rw [Nat.zero_add]; exact hL _ _ _ hw h
  | f + 1, listed, a, w, hw, h => by
    rw [show f + 1 + g = (f + g) + 1 by omega]
    exact ⟨fun h0 => absurd h0 h.1, fun i hi => wpOp_of_qOp hw (fun a' w' hw' h' => wpAny_of_headQ hL f _ a' w' hw' h') (h.2 i hi).2⟩
theorem headQ_first {n i : Nat} {oi : Oper} {v : Value} {L : Array Bool → Act → Prop} (hi : ops[i]? = some oi) (hsel : ∀ (j : Nat) (o : Oper) cs b, ops[j]? = some o → o.op ≠ .select cs b)
    (hs : Region.sinkB md ops n = true) (hc : Region.chainB md ops n = true) (hn : n < ops.size) (hin : i < n) (hdone : ∀ listed a, L listed a → ∀ j ∈ Region.ready md ops listed, n ≤ j) :
    ∀ (f : Nat) (listed : Array Bool) (a : Act), HeadInv md ops n listed →
      (∀ j oj, ops[j]? = some oj → j ≠ i → listed.getD j true = false → (∀ e ∈ oj.after, Region.binds md e = true → e.on ≠ i) → oi.apart ops oj = true) →
      i ∈ Region.ready md ops listed → YieldsIn P ops C oi v a →
      headQ P md ops C n L f (listed.setIfInBounds i true) (a.put oi.dst v) → headQ P md ops C n L (f + 1) listed a := by
  intro f
  induction f with
  | zero =>
    intro listed a inv _ hr hy H
    refine ⟨fun h => (by rw [h] at hr; cases hr), fun j hj => ?_⟩
    have hjn : j < n := by
      rcases Nat.lt_or_ge j n with h | h
      · exact h
      · exact absurd hj (tail_waits hs hc hn inv _ i rfl hin (mem_ready.1 hr).1 j h)
    refine ⟨hjn, ?_⟩
    rcases Decidable.em (j = i) with hji | hji
    · subst hji; exact hy.qOp hi H
    · have := hdone _ _ H j (ready_mono hj hji)
      omega
  | succ f ih =>
    intro listed a inv hfree hr hy H
    have hun := (mem_ready.1 hr).1
    refine ⟨fun h => (by rw [h] at hr; cases hr), fun j hj => ?_⟩
    have hjn : j < n := by
      rcases Nat.lt_or_ge j n with h | h
      · exact h
      · exact absurd hj (tail_waits hs hc hn inv _ i rfl hin hun j h)
    refine ⟨hjn, ?_⟩
    rcases Decidable.em (j = i) with hji | hji
    · subst hji; exact hy.qOp hi H
    · obtain ⟨hjun, oj, hoj, hall⟩ := mem_ready.1 hj
      have hnot : ∀ e ∈ oj.after, Region.binds md e = true → e.on ≠ i := fun e he hb heq => by
        have h1 := hall e he hb
        rw [heq, getD_both hun] at h1
        cases h1
      have h2 := qOp_put hoj (hfree j oj hoj hji hjun hnot) (fun cs b => hsel i oi cs b hi) (fun cs b => hsel j oj cs b hoj) hy (H.2 j (ready_mono hj hji)).2
      refine qOp_mono (fun a' h3 => ih (listed.setIfInBounds j true) a' (inv.set hj hjn) (fun k ok hk hki hku hkn => hfree k ok hk hki ?_ hkn) (ready_mono hr (Ne.symm hji)) h3.1 ?_) h2
      · rcases Decidable.em (j = k) with hjk | hjk
        · subst hjk; exact hjun
        · rwa [getD_set_ne true hjk] at hku
      · rw [Array.setIfInBounds_comm _ _ hji]
        exact h3.2
theorem headQ_lex {n g : Nat} {Lq : Act → Prop} (hsel : Region.noSelect ops = true) (hs : Region.sinkB md ops n = true) (hc : Region.chainB md ops n = true) (hn : n < ops.size) :
    ∀ (l : List Oper) (k : Nat) (listed : Array Bool) (a : Act), (∀ j, j < l.length → l[j]? = ops[k + j]?) → k + l.length = n → HeadInv md ops n listed →
    Region.lexHead md ops g l.length k listed = true → wpQuiet P ops C Lq l a → headQ P md ops C n (fun listed' a' => Region.seqB md ops g n listed' = true ∧ Lq a') l.length listed a
  | [], k, listed, a, _, hk, _, hB, h => by
    have : k = n := by simpa using hk
    subst this
    exact ⟨by simpa [Region.lexHead] using hB, h⟩
  | o :: l, k, listed, a, hl, hk, inv, hB, h => by
    have h0 : ops[k]? = some o := by simpa using (hl 0 (by simp)).symm
    simp only [List.length_cons, Region.lexHead, Bool.and_eq_true] at hB
    obtain ⟨⟨hr, hf⟩, hB'⟩ := hB
    have hkn : k < n := by simp only [List.length_cons] at hk; omega
    have hr' : k ∈ Region.ready md ops listed := by simpa using hr
    have hst : qOp P ops C k (wpQuiet P ops C Lq l) a := by unfold qOp; simp only [h0]; exact h
    obtain ⟨v, hy, hK⟩ := yieldsIn_of_qOp h0 hst
    exact headQ_first h0 (Region.noSelect_spec hsel) hs hc hn hkn (fun listed' a' hL => seqB_ready hL.1) l.length listed a inv (Region.free_spec h0 hf) hr' hy
      (headQ_lex hsel hs hc hn l (k + 1) _ _ (fun j hj => by have := hl (j + 1) (by simp; omega); simpa [Nat.add_assoc, Nat.add_comm 1 j] using this) (by simp only [List.length_cons] at hk; omega) (inv.set hr' hkn) hB' hK)
theorem wp_region_kept_tail {id : Nat} {Q : Exit → Act → World → Prop} {a : Act} {w : World} {l : List Oper} (n : Nat) (hm : P.follows .mixedOrders = true) (hB : Region.lexTailB .any l.toArray n = true)
    (h : wpQuiet P l.toArray (Kept w) (fun a' => ∀ w', Kept w w' → wpList P l.toArray Q (l.drop n) a' w') (l.take n) a) : (Code.region id l.toArray true).wp P Q a w := by
  simp only [Region.lexTailB, Bool.and_eq_true, decide_eq_true_eq] at hB
  obtain ⟨⟨⟨⟨hsel, hn⟩, hs⟩, hc⟩, hlex⟩ := hB
  have hn' : n < l.length := by simpa using hn
  have htl : (l.take n).length = n := by simp; omega
  have hdl : (l.drop n).length = l.toArray.size - n := by simp
  have inv0 : HeadInv .any l.toArray n (Array.replicate l.toArray.size false) :=
    ⟨by simp, fun j oj _ hl => (by rw [getD_replicate_false] at hl; cases hl), fun t _ ht => getD_in (by simpa using ht) (getD_replicate_false _ _)⟩
  have H := headQ_lex (md := .any) (g := l.toArray.size - n) hsel hs hc hn (l.take n) 0 _ a (fun j hj => by
    have hj' : j < n := by rw [htl] at hj; exact hj
    simp [hj']) (by simpa using htl) inv0 (by rw [htl]; exact hlex) h
  refine wp_region_any hm ?_
  have := wpAny_of_headQ (Q := Q) (g := l.toArray.size - n) (fun listed a' w' hw' hL => by
    have := wpAny_of_seq (md := .any) (Q' := Q) (l.drop n) n listed a' w' (fun j => by simp [List.getElem?_drop]) (by rw [hdl]; exact hL.1) (hL.2 w' hw')
    rwa [hdl] at this) _ _ _ _ ((Keep.refl _ w).drew : Kept w { w with drawn := w.drawn + 1 }) H
  rw [htl, show n + (l.toArray.size - n) = l.toArray.size by omega] at this
  exact this
end
end Go.Proofs.YteekndchkgdccaaGreatDoor

/- value.Compare, slices.CompareFunc at it. -/
namespace Go.Proofs.YteekndchkgdccaaGreatDoor
open Go.RowKit

/-- what value.Compare answers of a value -/
def CmpC (B : Nat) (sa : Nat → Addr) (v : V) : Prop := ∀ (v' : V) (r r' : Raw) (D D' : Nat → Prop) (w : World), GL B sa w → Tr w D r v → Tr w D' r' v' → Sm v → Sm v' →
  Calls Tryz.prog 75 #[ER.val r, ER.val r'] w fun e w' => e = .returned (.int .i64 (cmpV v v')) ∧ Keep nob w w'
theorem nobD (D : Nat → Prop) : ∀ b, D b → ¬ nob b := fun _ _ h => h

theorem range_keep {w w' : World} {b o : Nat} {l : List Value} (k : Keep nob w w') (h : w.rangeAt b o l) : w'.rangeAt b o l := fun j v hj => k.cell (h j v hj) (fun h => h)
theorem cells_val' {w : World} {b p : Nat} {r : Raw} (h : w.rangeAt b p (ER.cells r)) : w.cell? ⟨b, p, none⟩ = some (.int .i8 (r.kind : Int)) ∧ w.cell? ⟨b, p + 1, none⟩ = some (.int .u64 (r.n : Int)) ∧ w.cell? ⟨b, p + 2, none⟩ = some (.bool r.neg) ∧
    w.cell? ⟨b, p + 3, none⟩ = some (.slice r.mA r.mL r.mC) ∧ w.cell? ⟨b, p + 4, none⟩ = some (.int .u64 (r.bits : Int)) ∧ w.cell? ⟨b, p + 5, none⟩ = some (.int .i8 r.ext) ∧ w.cell? ⟨b, p + 6, none⟩ = some (.string r.text) ∧ w.cell? ⟨b, p + 7, none⟩ = some (.slice r.kA r.kL r.kC) :=
  ⟨h 0 _ rfl, h 1 _ rfl, h 2 _ rfl, h 3 _ rfl, h 4 _ rfl, h 5 _ rfl, h 6 _ rfl, h 7 _ rfl⟩
set_option maxRecDepth 100000 in
set_option maxHeartbeats 1000000 in
theorem compareFunc_ok (B : Nat) (sa : Nat → Addr) (vs vs' : List V) (hall : ∀ v ∈ vs, CmpC B sa v) (rs rs' : List Raw) (A A' : Option Addr) (c c' n n' : Nat) (D D' : Nat → Prop) (w : World) (g : GL B sa w) (hn : rs.length = n) (hn' : rs'.length = n') (h : Sl ER w A c rs) (h' : Sl ER w A' c' rs')
    (ht : TrL w D rs vs) (ht' : TrL w D' rs' vs') (hs : SmL vs) (hs' : SmL vs') :
    Calls Tryz.prog 95 #[.slice A n c, .slice A' n' c', .func (.func 75) #[] #[]] w fun e w' => e = .returned (.int .i64 (cmpVL vs vs')) ∧ Keep nob w w' := by
  have hle := h.le
  have hcc := h.cap
  have hle' := h'.le
  have hcc' := h'.cap
  rw [hn] at hle
  rw [hn'] at hle'
  have H := Lib.hid h
  have H' := Lib.hid h'
  have HN := Lib.hid hn
  have HN' := Lib.hid hn'
  have HV : Hid (vs.length = n) := Lib.hid (by rw [← ht.len, hn])
  have HV' : Hid (vs'.length = n') := Lib.hid (by rw [← ht'.len, hn'])
  have HT := Lib.hid ht
  have HT' := Lib.hid ht'
  have HG := Lib.hid g
  have HS := Lib.hid hs
  have HS' := Lib.hid hs'
  have HALL := Lib.hid hall
  clear h h' hn hn' ht ht' g hs hs' hall
  go_enter Tryz.func95, Tryz.ntmps95
  go_wp2_with (fail)
  go_loopw [7, 8, 9, 10, 13] (fun u7 u8 u9 u10 u13 wr => ∃ i : Nat, i ≤ n ∧ u13 = .int .i64 (i : Int) ∧ Hid (cmpVL (vs.drop i) (vs'.drop i) = cmpVL vs vs') ∧ Hid (i ≤ n') ∧ Hid (Keep nob w wr)) (fun _ _ _ _ u13 _ => n - (intOf u13).toNat)
  case atStart => exact ⟨0, Nat.zero_le _, rfl, Lib.hid rfl, Lib.hid (Nat.zero_le _), Lib.hid (Keep.refl _ _)⟩
  case round =>
    obtain ⟨i, hi, rfl, HF, HI, HK⟩ := hrel
    rcases Nat.lt_or_ge i n with hlt | hge
    · have hd : decide ((i : Int) < (n : Int)) = true := by rw [decide_eq_true_iff]; omega
      have hi0 : (0 : Int) ≤ (i : Int) := by omega
      have hi1 : (i : Int) < (n : Int) := by omega
      have hil : i < rs.length := by rw [HN.out]; exact hlt
      obtain ⟨b, o, rfl, hx⟩ := (H.out.keep HK.out (fun ⟨_, _, h⟩ => h)).elem (i := i) hil
      obtain ⟨r, HR⟩ : ∃ r, Hid (rs[i] = r) := ⟨_, Lib.hid rfl⟩
      rw [HR.out] at hx
      obtain ⟨p, HP⟩ : ∃ p, Hid (o + i * 8 = p) := ⟨_, Lib.hid rfl⟩
      have hx2 : wr.rangeAt b p (ER.cells r) := by rw [← HP.out]; exact hx
      obtain ⟨e0, e1, e2, e3, e4, e5, e6, e7⟩ := cells_val' hx2
      have hp := HP.out
      have hRN := range_new wr r 35
      have HKA : Hid (Keep nob wr (wr.alloc (.cells (ER.cells r).toArray 35))) := Lib.hid ((Keep.refl _ _).alloc _)
      have HRN := Lib.hid hRN
      clear hx hx2 hRN
      go_upto_region 4 with (fail)
      obtain ⟨w1, HW1⟩ : ∃ w1, Hid (wr.alloc (.cells (ER.cells r).toArray 35) = w1) := ⟨_, Lib.hid rfl⟩
      obtain ⟨b8, HB8⟩ : ∃ b8, Hid (wr.heap.size = b8) := ⟨_, Lib.hid rfl⟩
      rw [HW1.out] at HRN HKA
      rw [HB8.out] at HRN ⊢
      rw [show wr.alloc (.cells #[.int .i8 (r.kind : Int), .int .u64 (r.n : Int), .bool r.neg, .slice r.mA r.mL r.mC, .int .u64 (r.bits : Int), .int .i8 r.ext, .string r.text, .slice r.kA r.kL r.kC] 35) = w1 from HW1.out]
      clear e0 e1 e2 e3 e4 e5 e6 e7
      have HK1 := Lib.hid (HK.out.then_ HKA.out)
      rcases Nat.lt_or_ge i n' with hlt' | hge'
      · have hd2 : decide ((i : Int) ≥ (n' : Int)) = false := by rw [decide_eq_false_iff_not]; omega
        have hj1 : (i : Int) < (n' : Int) := by omega
        have hil' : i < rs'.length := by rw [HN'.out]; exact hlt'
        obtain ⟨b', o', rfl, hy⟩ := (H'.out.keep HK1.out (fun ⟨_, _, h⟩ => h)).elem (i := i) hil'
        obtain ⟨r', HR'⟩ : ∃ r', Hid (rs'[i] = r') := ⟨_, Lib.hid rfl⟩
        rw [HR'.out] at hy
        obtain ⟨p', HP'⟩ : ∃ p', Hid (o' + i * 8 = p') := ⟨_, Lib.hid rfl⟩
        have hy2 : w1.rangeAt b' p' (ER.cells r') := by rw [← HP'.out]; exact hy
        obtain ⟨e0, e1, e2, e3, e4, e5, e6, e7⟩ := cells_val' hy2
        have hp' := HP'.out
        have HRN' := Lib.hid (range_new w1 r' 35)
        have HKA' : Hid (Keep nob w1 (w1.alloc (.cells (ER.cells r').toArray 35))) := Lib.hid ((Keep.refl _ _).alloc _)
        clear hy hy2
        go_upto_region 7 with (fail)
        obtain ⟨w2, HW2⟩ : ∃ w2, Hid (w1.alloc (.cells (ER.cells r').toArray 35) = w2) := ⟨_, Lib.hid rfl⟩
        obtain ⟨b9, HB9⟩ : ∃ b9, Hid (w1.heap.size = b9) := ⟨_, Lib.hid rfl⟩
        rw [HW2.out] at HRN' HKA'
        rw [HB9.out] at HRN' ⊢
        rw [show w1.alloc (.cells #[.int .i8 (r'.kind : Int), .int .u64 (r'.n : Int), .bool r'.neg, .slice r'.mA r'.mL r'.mC, .int .u64 (r'.bits : Int), .int .i8 r'.ext, .string r'.text, .slice r'.kA r'.kL r'.kC] 35) = w2 from HW2.out]
        clear e0 e1 e2 e3 e4 e5 e6 e7
        have HK2 := Lib.hid (HK1.out.then_ HKA'.out)
        obtain ⟨e0, e1, e2, e3, e4, e5, e6, e7⟩ := cells_val (range_keep HKA'.out HRN.out)
        obtain ⟨d0, d1, d2, d3, d4, d5, d6, d7⟩ := cells_val HRN'.out
        have hvl : i < vs.length := by rw [HV.out]; exact hlt
        have hvl' : i < vs'.length := by rw [HV'.out]; exact hlt'
        have hC := HALL.out vs[i] (List.getElem_mem hvl) vs'[i] r r' D D' w2 (HG.out.keep HK2.out (fun _ h => h.elim)) (by rw [← HR.out]; exact Tr.keep HK2.out (nobD D) _ _ (HT.out.get i hil hvl)) (by rw [← HR'.out]; exact Tr.keep HK2.out (nobD D') _ _ (HT'.out.get i hil' hvl')) (HS.out.get i hvl) (HS'.out.get i hvl')
        have hst := cmpVL_step hvl hvl'
        rw [HF.out] at hst
        obtain ⟨q, HQ⟩ : ∃ q, Hid (cmpV vs[i] vs'[i] = q) := ⟨_, Lib.hid rfl⟩
        rw [HQ.out] at hC hst
        have HST := Lib.hid hst
        have i5 : IntKind.i64.wrap ((i : Int) + 1) = (i : Int) + 1 := by rw [IntWalk.i64_left, IntWalk.wrap64_in _ ⟨by omega, by omega⟩]
        simp only [ER] at hC
        clear hst
        by_cases hq : q = 0
        · subst hq
          rw [orI_zero] at HST
          go_wp2_with (go_at_call 75; go_must (refine hC.mono ?_); rintro e w3 ⟨rfl, hk3⟩)
          exact ⟨⟨i + 1, by omega, rfl, Lib.hid HST.out.symm, Lib.hid hlt', Lib.hid (HK2.out.then_ hk3)⟩, by simp [intOf]; omega⟩
        · have hqd : (q == 0) = false := by rw [beq_eq_false_iff_ne]; exact hq
          rw [orI_ne _ hq] at HST
          clear hq
          go_wp2_with (go_at_call 75; go_must (refine hC.mono ?_); rintro e w3 ⟨rfl, hk3⟩)
          go_ret
          rw [HST.out]
          exact ⟨rfl, HK2.out.then_ hk3⟩
      · have hd2 : decide ((i : Int) ≥ (n' : Int)) = true := by rw [decide_eq_true_iff]; omega
        have hst := cmpVL_more (l := vs) (l' := vs') (i := i) (by rw [HV.out]; exact hlt) (by rw [HV'.out]; exact hge')
        rw [HF.out] at hst
        have HST := Lib.hid hst
        clear hst
        go_wp2
        go_ret
        rw [HST.out]
        exact ⟨rfl, HK1.out⟩
    · obtain rfl : i = n := by omega
      have hd : decide ((i : Int) < (i : Int)) = false := by rw [decide_eq_false_iff_not]; omega
      have hin := HI.out
      rcases Nat.lt_or_ge i n' with hlt' | hge'
      · have hd2 : decide ((i : Int) < (n' : Int)) = true := by rw [decide_eq_true_iff]; omega
        have hst := cmpVL_less (l := vs) (l' := vs') (i := i) (by rw [HV.out]; exact Nat.le_refl _) (by rw [HV'.out]; exact hlt')
        rw [HF.out] at hst
        have HST := Lib.hid hst
        clear hst
        go_wp2
        go_ret
        rw [HST.out]
        exact ⟨rfl, HK.out⟩
      · have hd2 : decide ((i : Int) < (n' : Int)) = false := by rw [decide_eq_false_iff_not]; omega
        have hst := cmpVL_end (l := vs) (l' := vs') (i := i) (by rw [HV.out]; exact Nat.le_refl _) (by rw [HV'.out]; exact hge')
        rw [HF.out] at hst
        have HST := Lib.hid hst
        clear hst
        go_wp2
        go_ret
        rw [HST.out]
        exact ⟨rfl, HK.out⟩
end Go.Proofs.YteekndchkgdccaaGreatDoor

/- value.Compare. -/
namespace Go.Proofs.YteekndchkgdccaaGreatDoor
open Go.RowKit

theorem orI_right (x : Int) : orI x 0 = x := by
  unfold orI
  split
  · rename_i h; exact h.symm
  · rfl
set_option maxRecDepth 100000 in
set_option maxHeartbeats 1000000 in
theorem compare_step (B : Nat) (sa : Nat → Addr) (k n : Nat) (neg : Bool) (mag : List Nat) (bits : Nat) (ext : Int) (text : ByteArray) (kids : List V) (hall : ∀ v ∈ kids, CmpC B sa v) : CmpC B sa (.mk k n neg mag bits ext text kids) := by
  rintro ⟨k', n', neg', mag', bits', ext', text', kids'⟩ ⟨rk, rn, rneg, rA, rL, rC, rbits, rext, rtext, rkA, rkL, rkC⟩ ⟨rk', rn', rneg', rA', rL', rC', rbits', rext', rtext', rkA', rkL', rkC'⟩ D D' w g ht ht' hs hs'
  obtain ⟨rfl, rfl, rfl, rfl, rfl, rfl, ⟨hL, hsl, -⟩, rs, hkL, hks, -, hkt⟩ := ht
  obtain ⟨rfl, rfl, rfl, rfl, rfl, rfl, ⟨hL', hsl', -⟩, rs', hkL', hks', -, hkt'⟩ := ht'
  dsimp only at hL hsl hkL hks hkt hL' hsl' hkL' hks' hkt' ⊢
  obtain ⟨hm, hkl, hb, hsk⟩ := hs
  obtain ⟨hm', hkl', hb', hsk'⟩ := hs'
  obtain ⟨w0, HW0⟩ : ∃ w0, Hid ((w.alloc (.cells #[.int .i8 (rk : Int), .int .u64 (rn : Int), .bool rneg, .slice rA rL rC, .int .u64 (rbits : Int), .int .i8 rext, .string rtext, .slice rkA rkL rkC] 35)).alloc (.cells #[.int .i8 (rk' : Int), .int .u64 (rn' : Int), .bool rneg', .slice rA' rL' rC', .int .u64 (rbits' : Int), .int .i8 rext', .string rtext', .slice rkA' rkL' rkC'] 35) = w0) := ⟨_, Lib.hid rfl⟩
  have HK0 : Hid (Keep nob w w0) := by unfold Hid; rw [← HW0.out]; exact ((Keep.refl _ _).alloc _).alloc _
  have hr1 : w0.rangeAt w.heap.size 0 (ER.cells ⟨rk, rn, rneg, rA, rL, rC, rbits, rext, rtext, rkA, rkL, rkC⟩) := by
    rw [← HW0.out]
    exact range_keep ((Keep.refl nob _).alloc _) (range_new w ⟨rk, rn, rneg, rA, rL, rC, rbits, rext, rtext, rkA, rkL, rkC⟩ 35)
  have hsz : (w.alloc (.cells #[.int .i8 (rk : Int), .int .u64 (rn : Int), .bool rneg, .slice rA rL rC, .int .u64 (rbits : Int), .int .i8 rext, .string rtext, .slice rkA rkL rkC] 35)).heap.size = w.heap.size + 1 := by simp
  have hr2 : w0.rangeAt (w.heap.size + 1) 0 (ER.cells ⟨rk', rn', rneg', rA', rL', rC', rbits', rext', rtext', rkA', rkL', rkC'⟩) := by
    rw [← HW0.out, ← hsz]
    exact range_new _ ⟨rk', rn', rneg', rA', rL', rC', rbits', rext', rtext', rkA', rkL', rkC'⟩ 35
  obtain ⟨p, HP⟩ : ∃ p, Hid (w.heap.size = p) := ⟨_, Lib.hid rfl⟩
  obtain ⟨q, HQ⟩ : ∃ q, Hid (w.heap.size + 1 = q) := ⟨_, Lib.hid rfl⟩
  rw [HP.out] at hr1
  rw [HQ.out] at hr2
  have HCE : Hid (∀ w', Kept w0 w' → w'.cell? ⟨p, 0, none⟩ = some (.int .i8 (rk : Int)) ∧ w'.cell? ⟨p, 1, none⟩ = some (.int .u64 (rn : Int)) ∧ w'.cell? ⟨p, 2, none⟩ = some (.bool rneg) ∧ w'.cell? ⟨p, 3, none⟩ = some (.slice rA rL rC) ∧ w'.cell? ⟨p, 4, none⟩ = some (.int .u64 (rbits : Int)) ∧ w'.cell? ⟨p, 5, none⟩ = some (.int .i8 rext) ∧ w'.cell? ⟨p, 6, none⟩ = some (.string rtext) ∧
      w'.cell? ⟨q, 0, none⟩ = some (.int .i8 (rk' : Int)) ∧ w'.cell? ⟨q, 1, none⟩ = some (.int .u64 (rn' : Int)) ∧ w'.cell? ⟨q, 2, none⟩ = some (.bool rneg') ∧ w'.cell? ⟨q, 3, none⟩ = some (.slice rA' rL' rC') ∧ w'.cell? ⟨q, 4, none⟩ = some (.int .u64 (rbits' : Int)) ∧ w'.cell? ⟨q, 5, none⟩ = some (.int .i8 rext') ∧ w'.cell? ⟨q, 6, none⟩ = some (.string rtext')) := Lib.hid (fun w' hk => by
    obtain ⟨a0, a1, a2, a3, a4, a5, a6, -⟩ := cells_val (range_keep hk hr1)
    obtain ⟨b0, b1, b2, b3, b4, b5, b6, -⟩ := cells_val (range_keep hk hr2)
    exact ⟨a0, a1, a2, a3, a4, a5, a6, b0, b1, b2, b3, b4, b5, b6⟩)
  have HK7 : Hid (∀ w', Kept w0 w' → w'.cell? ⟨p, 7, none⟩ = some (.slice rkA rkL rkC) ∧ w'.cell? ⟨q, 7, none⟩ = some (.slice rkA' rkL' rkC')) := Lib.hid (fun w' hk => by
    obtain ⟨-, -, -, -, -, -, -, a7⟩ := cells_val (range_keep hk hr1)
    obtain ⟨-, -, -, -, -, -, -, b7⟩ := cells_val (range_keep hk hr2)
    exact ⟨a7, b7⟩)
  unfold cmpV
  have H1 : Hid (∀ w', Kept w0 w' → Calls Tryz.prog 89 #[.int .i8 (rk : Int), .int .i8 (rk' : Int)] w' fun e w'' => e = .returned (.int .i64 (cmpI rk rk')) ∧ Keep nob w' w'') := Lib.hid (fun w' _ => (cmpKind_ok _ _ _).mono fun e w'' ⟨h1, h2⟩ => ⟨h1, h2 ▸ Keep.refl _ _⟩)
  have H2 : Hid (∀ w', Kept w0 w' → Calls Tryz.prog 90 #[.int .u64 (rn : Int), .int .u64 (rn' : Int)] w' fun e w'' => e = .returned (.int .i64 (cmpI rn rn')) ∧ Keep nob w' w'') := Lib.hid (fun w' _ => (cmp64_ok _ _ _).mono fun e w'' ⟨h1, h2⟩ => ⟨h1, h2 ▸ Keep.refl _ _⟩)
  have H3 : Hid (∀ w', Kept w0 w' → Calls Tryz.prog 91 #[.int .i8 rext, .int .i8 rext'] w' fun e w'' => e = .returned (.int .i64 (cmpI rext rext')) ∧ Keep nob w' w'') := Lib.hid (fun w' _ => (cmp8_ok _ _ _).mono fun e w'' ⟨h1, h2⟩ => ⟨h1, h2 ▸ Keep.refl _ _⟩)
  have H4 : Hid (∀ w', Kept w0 w' → Calls Tryz.prog 92 #[.agg #[.bool rneg, .slice rA rL rC], .agg #[.bool rneg', .slice rA' rL' rC']] w' fun e w'' => e = .returned (.int .i64 (cmpW rneg mag rneg' mag')) ∧ Keep nob w' w'') := Lib.hid (fun w' hk => wCmp_ok rneg rneg' rA rA' rC rC' rL rL' mag mag' w' hL.symm hL'.symm (hsl.keep (HK0.out.then_ hk) (fun ⟨_, _, h⟩ => h)) (hsl'.keep (HK0.out.then_ hk) (fun ⟨_, _, h⟩ => h)) (by omega) (by omega))
  have H5 : Hid (∀ w', Kept w0 w' → Calls Tryz.prog 93 #[.int .u64 (rbits : Int), .int .u64 (rbits' : Int)] w' fun e w'' => e = .returned (.int .i64 (total64 rbits rbits')) ∧ Keep nob w' w'') := Lib.hid (fun w' hk => total64_ok rbits rbits' B hb hb' sa w' (g.keep (HK0.out.then_ hk) (fun _ h => h.elim)))
  have H6 : Hid (∀ w', Kept w0 w' → Calls Tryz.prog 94 #[.string rtext, .string rtext'] w' fun e w'' => e = .returned (.int .i64 (lexN (bl rtext) (bl rtext'))) ∧ Keep nob w' w'') := Lib.hid (fun w' _ => (cmpS_ok _ _ _).mono fun e w'' ⟨h1, h2⟩ => ⟨h1, h2 ▸ Keep.refl _ _⟩)
  have HCF := Lib.hid (fun (w' : World) (hk : Kept w0 w') => compareFunc_ok B sa kids kids' hall rs rs' rkA rkA' rkC rkC' rkL rkL' D D' w' (g.keep (HK0.out.then_ hk) (fun _ h => h.elim)) hkL.symm hkL'.symm (hks.keep (HK0.out.then_ hk) (fun ⟨_, _, h⟩ => h)) (hks'.keep (HK0.out.then_ hk) (fun ⟨_, _, h⟩ => h)) (TrL.keep (HK0.out.then_ hk) (nobD D) _ _ hkt) (TrL.keep (HK0.out.then_ hk) (nobD D') _ _ hkt') hsk hsk')
  obtain ⟨x1, HX1⟩ : ∃ x, Hid (cmpI rk rk' = x) := ⟨_, Lib.hid rfl⟩
  obtain ⟨x2, HX2⟩ : ∃ x, Hid (cmpI rn rn' = x) := ⟨_, Lib.hid rfl⟩
  obtain ⟨x3, HX3⟩ : ∃ x, Hid (cmpI rext rext' = x) := ⟨_, Lib.hid rfl⟩
  obtain ⟨x4, HX4⟩ : ∃ x, Hid (cmpW rneg mag rneg' mag' = x) := ⟨_, Lib.hid rfl⟩
  obtain ⟨x5, HX5⟩ : ∃ x, Hid (total64 rbits rbits' = x) := ⟨_, Lib.hid rfl⟩
  obtain ⟨x6, HX6⟩ : ∃ x, Hid (lexN (bl rtext) (bl rtext') = x) := ⟨_, Lib.hid rfl⟩
  obtain ⟨x7, HX7⟩ : ∃ x, Hid (cmpVL kids kids' = x) := ⟨_, Lib.hid rfl⟩
  rw [HX1.out] at H1
  rw [HX2.out] at H2
  rw [HX3.out] at H3
  rw [HX4.out] at H4
  rw [HX5.out] at H5
  rw [HX6.out] at H6
  rw [HX7.out] at HCF
  rw [HX1.out, HX2.out, HX3.out, HX4.out, HX5.out, HX6.out, HX7.out]
  obtain ⟨C, HC⟩ : ∃ C, Hid (orI x1 (orI x2 (orI x3 (orI x4 (orI x5 x6)))) = C) := ⟨_, Lib.hid rfl⟩
  rw [HC.out]
  obtain ⟨Z, HZ⟩ : ∃ Z, Hid (orI C x7 = Z) := ⟨_, Lib.hid rfl⟩
  rw [HZ.out]
  have HOR : Hid (∀ w5 : World, Calls Tryz.prog 88 #[.slice (some ⟨w5.heap.size, 0, none⟩) 6 6] (w5.alloc (.cells #[.int .i64 x1, .int .i64 x2, .int .i64 x3, .int .i64 x4, .int .i64 x5, .int .i64 x6] 3)) fun e w' => e = .returned (.int .i64 C) ∧ w' = w5.alloc (.cells #[.int .i64 x1, .int .i64 x2, .int .i64 x3, .int .i64 x4, .int .i64 x5, .int .i64 x6] 3)) := by
    refine Lib.hid (fun w5 => ?_)
    have hC : firstZ [x1, x2, x3, x4, x5, x6] = C := by rw [← HC.out]; simp only [firstZ, orI_right]
    rw [← hC]
    refine cmpOr_ok (some ⟨w5.heap.size, 0, none⟩) 6 6 [x1, x2, x3, x4, x5, x6] _ rfl ⟨Nat.le_refl _, by decide, fun _ => ⟨_, _, rfl, range_alloc_new w5 _ _ _ (fun j v hj => by simpa [El.flat_cons, El.flat_nil, EZ] using hj)⟩⟩
  clear hall g hkL hkL' hL hsl hks hkt hL' hsl' hks' hkt' hm hkl hb hsk hm' hkl' hb' hsk' hr1 hr2 hsz
  simp only [ER]
  go_enter Tryz.func75, Tryz.ntmps75
  go_upto_region 1 with (fail)
  rw [HW0.out, HQ.out, HP.out]
  refine wp_region_kept_tail 30 (by kernel_rfl) (by kernel_rfl) (QV.out ?_)
  simp only [List.take_succ_cons, List.take_zero, List.drop_succ_cons, List.drop_zero]
  repeat (first
    | (refine kq_skip (by rfl) (fun K hK => ?_); go_simp; refine hK _ ?_; clear hK K)
    | (refine kq_want (by rfl) (fun K hK => ?_); first
        | (refine BigFrame.quiet_move _ rfl ?_; go_simp; refine hK _ ?_; clear hK K)
        | (refine kq_still ?_ (fun w' hw' => ?_) ?_; rotate_left; (obtain ⟨a0, a1, a2, a3, a4, a5, a6, b0, b1, b2, b3, b4, b5, b6⟩ := HCE.out w' hw'; go_simp; first | done | exact rfl); go_simp; refine hK _ ?_; clear hK K)
        | (go_simp; apply Exists.intro; refine ⟨fun w' hw' => ?_, hK _ ?_⟩; (first | (go_at_call 89; refine (H1.out w' hw').mono ?_) | (go_at_call 90; refine (H2.out w' hw').mono ?_) | (go_at_call 91; refine (H3.out w' hw').mono ?_) | (go_at_call 92; refine (H4.out w' hw').mono ?_) | (go_at_call 93; refine (H5.out w' hw').mono ?_) | (go_at_call 94; refine (H6.out w' hw').mono ?_)); rintro e w'' ⟨rfl, hk''⟩; exact ⟨rfl, hw'.then_ hk''⟩; clear hK K)))
  refine ⟨wpQuiet_nil ?_⟩
  intro w5 hk5
  have HK5 : Hid (Keep nob w0 w5) := Lib.hid hk5
  clear hk5
  have HWA : Hid (Keep nob w5 (w5.alloc (.cells #[.int .i64 x1, .int .i64 x2, .int .i64 x3, .int .i64 x4, .int .i64 x5, .int .i64 x6] 3))) := Lib.hid ((Keep.refl _ _).alloc _)
  have HK6 := Lib.hid (HK5.out.then_ HWA.out)
  have HO5 := Lib.hid (HOR.out w5)
  obtain ⟨a7, b7⟩ := HK7.out _ HK6.out
  have HCC := Lib.hid (HCF.out _ HK6.out)
  have HK9 := Lib.hid (HK0.out.then_ HK6.out)
  clear HCF HK7 HOR H1 H2 H3 H4 H5 H6 HCE
  by_cases hc : C = 0
  · subst hc
    rw [orI_zero] at HZ
    go_upto_region 2 with (go_at_call 88; go_must (refine HO5.out.mono ?_); rintro e w6 ⟨rfl, rfl⟩)
    obtain ⟨w6, HW6⟩ : ∃ w6, Hid (w5.alloc (.cells #[.int .i64 x1, .int .i64 x2, .int .i64 x3, .int .i64 x4, .int .i64 x5, .int .i64 x6] 3) = w6) := ⟨_, Lib.hid rfl⟩
    rw [HW6.out] at HCC HK9 a7 b7 ⊢
    go_wp2_with (go_at_call 95; go_must (refine HCC.out.mono ?_); rintro e w7 ⟨rfl, hk7⟩)
    go_ret
    rw [← HZ.out]
    exact ⟨rfl, HK9.out.then_ hk7⟩
  · rw [orI_ne _ hc] at HZ
    have hcd : (C == 0) = false := by rw [beq_eq_false_iff_ne]; exact hc
    clear hc
    go_wp2_with (go_at_call 88; go_must (refine HO5.out.mono ?_); rintro e w6 ⟨rfl, rfl⟩)
    go_ret
    rw [← HZ.out]
    exact ⟨rfl, HK9.out⟩
theorem compare_ok (B : Nat) (sa : Nat → Addr) : ∀ v, CmpC B sa v
  | .mk k n neg mag bits ext text kids => compare_step B sa k n neg mag bits ext text kids (fun v _hv => compare_ok B sa v)
termination_by v => SizeOf.sizeOf v
decreasing_by
  have := List.sizeOf_lt_of_mem _hv
  simp
  omega
end Go.Proofs.YteekndchkgdccaaGreatDoor

/- packread's family of lists. -/
namespace Go.Proofs.YteekndchkgdccaaGreatDoor
open Go.RowKit

theorem infoValue : (Tryz.prog.info? 35).map (fun i => (i.zero, i.size, i.bytes)) = some (some (.agg #[.int .i8 0, .int .u64 0, .bool false, .slice none 0 0, .int .u64 0, .int .i8 0, .string ⟨#[]⟩, .slice none 0 0]), 8, 104) := by kernel_rfl
/-- a slice's new element -/
theorem one_sl (w : World) (r : Raw) (T : TypeId) : Sl ER (w.alloc (.cells (ER.cells r).toArray T)) (some ⟨w.heap.size, 0, none⟩) 1 [r] :=
  ⟨Nat.le_refl _, by decide, fun _ => ⟨_, _, rfl, range_alloc_new w _ T _ (fun j v hj => by simpa [El.flat_cons, El.flat_nil] using hj)⟩⟩
/-- blocks from a bound on, but those of a slice -/
def Del (m : Nat) (A : Option Addr) : Nat → Prop := fun k => m ≤ k ∧ ¬ AtB A k
theorem range_keepS {S : Nat → Prop} {w w' : World} {b o : Nat} {l : List Value} (k : Keep S w w') (hb : ¬ S b) (h : w.rangeAt b o l) : w'.rangeAt b o l := fun j v hj => k.cell (h j v hj) hb
/-- the last cell of eight written anew -/
theorem range_kids {w : World} {b : Nat} {r : Raw} (h : w.rangeAt b 0 (ER.cells r)) (A : Option Addr) (n c : Nat) : (w.setCell ⟨b, 7, none⟩ (.slice A n c)).rangeAt b 0 (ER.cells { r with kA := A, kL := n, kC := c }) := by
  obtain ⟨h0, h1, h2, h3, h4, h5, h6, h7⟩ := cells_val h
  intro j v hj
  match j, hj with
  | 0, hj => simp only [ER] at hj; simp at hj; subst hj; rw [Nat.zero_add, World.cell?_setCell_other _ _ _ _ (by simp)]; exact h0
  | 1, hj => simp only [ER] at hj; simp at hj; subst hj; rw [Nat.zero_add, World.cell?_setCell_other _ _ _ _ (by simp)]; exact h1
  | 2, hj => simp only [ER] at hj; simp at hj; subst hj; rw [Nat.zero_add, World.cell?_setCell_other _ _ _ _ (by simp)]; exact h2
  | 3, hj => simp only [ER] at hj; simp at hj; subst hj; rw [Nat.zero_add, World.cell?_setCell_other _ _ _ _ (by simp)]; exact h3
  | 4, hj => simp only [ER] at hj; simp at hj; subst hj; rw [Nat.zero_add, World.cell?_setCell_other _ _ _ _ (by simp)]; exact h4
  | 5, hj => simp only [ER] at hj; simp at hj; subst hj; rw [Nat.zero_add, World.cell?_setCell_other _ _ _ _ (by simp)]; exact h5
  | 6, hj => simp only [ER] at hj; simp at hj; subst hj; rw [Nat.zero_add, World.cell?_setCell_other _ _ _ _ (by simp)]; exact h6
  | 7, hj => simp only [ER] at hj; simp at hj; subst hj; rw [Nat.zero_add]; exact World.cell?_setCell_same _ _ _ h7
  | j + 8, hj => simp [ER] at hj
/-- what is known of a container's values while it grows: its cells in block b7, its values' trees -/
structure Grow (wr : World) (b7 m kind : Nat) (A : Option Addr) (c : Nat) (rs : List Raw) (acc : List V) : Prop where
  ow : Ow ER wr A c rs
  at_ : ∀ a, A = some a → m ≤ a.block
  lt : ∀ a, A = some a → a.block < wr.heap.size
  tr : TrL wr (Del m A) rs acc
  ce : wr.rangeAt b7 0 (ER.cells ⟨kind, 0, false, none, 0, 0, 0, 0, ⟨#[]⟩, A, rs.length, c⟩)
  th : wr.there b7 0 8
theorem Grow.keep {wr w' : World} {b7 m kind : Nat} {A : Option Addr} {c : Nat} {rs : List Raw} {acc : List V} {S : Nat → Prop} (h : Grow wr b7 m kind A c rs acc) (k : Keep S wr w') (hm : ∀ j, S j → j < m) (h7 : ¬ S b7) : Grow w' b7 m kind A c rs acc :=
  ⟨h.ow.keep k (fun ⟨a, ha, hS⟩ => by have := hm _ hS; have := h.at_ a ha; omega), h.at_, fun a ha => Nat.lt_of_lt_of_le (h.lt a ha) k.size, TrL.keep k (fun j hj hS => by have := hm _ hS; have := hj.1; omega) _ _ h.tr, range_keepS k h7 h.ce, k.there h.th h7⟩
/-- one value more behind the others -/
theorem Grow.push {w5 w6 : World} {b7 m kind : Nat} {A A' : Option Addr} {c c' n : Nat} {rs : List Raw} {acc : List V} {r : Raw} {v : V} (h : Grow w5 b7 m kind A c rs acc) (hap : Appended ER w5 A (rs ++ [r]) A' c' w6) (h7 : b7 < m) (hm : m ≤ w5.heap.size)
    (ht : Tr w5 (fun j => n ≤ j) r v) (hn : m ≤ n) (hA : ∀ a, A = some a → a.block < n) : Grow (w6.setCell ⟨b7, 7, none⟩ (.slice A' (rs.length + 1) c')) b7 m kind A' c' (rs ++ [r]) (acc ++ [v]) ∧ Keep (fun k => AtB A k ∨ k = b7) w5 (w6.setCell ⟨b7, 7, none⟩ (.slice A' (rs.length + 1) c')) := by
  have hA' : ∀ a, A' = some a → m ≤ a.block := fun a ha => by
    rcases hap.lies a ha with ⟨a0, h0, h1⟩ | ⟨h1, _⟩
    · have := h.at_ a0 h0; omega
    · omega
  have hk : Keep (· = b7) w6 (w6.setCell ⟨b7, 7, none⟩ (.slice A' (rs.length + 1) c')) := (Keep.refl (· = b7) w6).setCell (fun _ => rfl) _
  have h7A : ¬ AtB A b7 := fun ⟨a, ha, hb⟩ => by have := h.at_ a ha; omega
  have h7A' : ¬ AtB A' b7 := fun ⟨a, ha, hb⟩ => by have := hA' a ha; omega
  have hdel : ∀ j, j < w5.heap.size → Del m A j → ¬ AtB A j ∧ Del m A' j := fun j hj hd => ⟨hd.2, hd.1, fun ⟨a, ha, hb⟩ => by
    rcases hap.lies a ha with ⟨a0, h0, h1⟩ | ⟨h1, _⟩
    · exact hd.2 ⟨a0, h0, by omega⟩
    · omega⟩
  have t1 : TrL w5 (fun j => ¬ AtB A j ∧ Del m A' j) rs acc := TrL.mono hdel _ _ h.tr
  have t2 : Tr w5 (fun j => ¬ AtB A j ∧ Del m A' j) r v := Tr.mono (fun j hj hd => hdel j hj ⟨by omega, fun ⟨a, ha, hb⟩ => by have := hA a ha; omega⟩) _ _ ht
  have t3 : TrL w6 (fun j => Del m A' j) (rs ++ [r]) (acc ++ [v]) := TrL.mono (fun _ _ hd => hd.2) _ _ (TrL.keep hap.keep (fun j hd => hd.1) _ _ (TrL.app t1 ⟨t2, trivial⟩))
  have hce : w6.rangeAt b7 0 (ER.cells ⟨kind, 0, false, none, 0, 0, 0, 0, ⟨#[]⟩, A, rs.length, c⟩) := range_keepS hap.keep h7A h.ce
  refine ⟨⟨hap.ow.keep hk (fun ⟨a, ha, hb⟩ => h7A' ⟨a, ha, hb⟩), hA', fun a ha => ?_, TrL.keep hk (fun j hd e => by have := hd.1; omega) _ _ t3, ?_, ?_⟩, ?_⟩
  · rcases hap.lies a ha with ⟨a0, h0, h1⟩ | ⟨h1, h2⟩
    · have := h.lt a0 h0; have := hap.keep.size; have := hk.size; omega
    · have := hk.size; omega
  · have := range_kids hce A' (rs.length + 1) c'
    rw [List.length_append, List.length_singleton]
    exact this
  · exact World.there_setCells (hap.keep.there h.th h7A) b7 7 [.slice A' (rs.length + 1) c']
  · exact (hap.keep.mono (fun _ _ h => .inl h)).trans hk (fun j _ e => .inr e)
end Go.Proofs.YteekndchkgdccaaGreatDoor

/- packread's family of lists: the walk. -/
namespace Go.Proofs.YteekndchkgdccaaGreatDoor
open Go.RowKit

end Go.Proofs.YteekndchkgdccaaGreatDoor

/- packread's family of maps: what grows; too deep. -/
namespace Go.Proofs.YteekndchkgdccaaGreatDoor
open Go.RowKit

/-- a key and a value put into their place -/
theorem Grow.ins {w8 w9 w12 : World} {b7 m kind : Nat} {A A' : Option Addr} {c c' n mm : Nat} {rs : List Raw} {acc : List V} {rk rx : Raw} {vk vx : V} (h : Grow w8 b7 m kind A c rs acc) (hap : Appended ER w8 A (rs ++ [rk, rx]) A' c' w9) (h7 : b7 < m) (hm : m ≤ w8.heap.size)
    (htk : Tr w8 (fun j => n ≤ j) rk vk) (htx : Tr w8 (fun j => n ≤ j) rx vx) (hn : m ≤ n) (hA : ∀ a, A = some a → a.block < n)
    (k12 : Keep (fun k => AtB A' k ∨ k = b7) w9 w12) (ho : Ow ER w12 A' c' (rs.take (2 * mm) ++ rk :: rx :: rs.drop (2 * mm)))
    (hce : w12.rangeAt b7 0 (ER.cells ⟨kind, 0, false, none, 0, 0, 0, 0, ⟨#[]⟩, A', rs.length + 2, c'⟩)) (hth : w12.there b7 0 8) :
    Grow w12 b7 m kind A' c' (rs.take (2 * mm) ++ rk :: rx :: rs.drop (2 * mm)) (insN acc mm vk vx) ∧ Keep (fun k => AtB A k ∨ k = b7 ∨ w8.heap.size ≤ k) w8 w12 := by
  have hA' : ∀ a, A' = some a → m ≤ a.block := fun a ha => by
    rcases hap.lies a ha with ⟨a0, h0, h1⟩ | ⟨h1, _⟩
    · have := h.at_ a0 h0; omega
    · omega
  have hdel : ∀ j, j < w8.heap.size → Del m A j → ¬ AtB A j ∧ Del m A' j := fun j hj hd => ⟨hd.2, hd.1, fun ⟨a, ha, hb⟩ => by
    rcases hap.lies a ha with ⟨a0, h0, h1⟩ | ⟨h1, _⟩
    · exact hd.2 ⟨a0, h0, by omega⟩
    · omega⟩
  have t1 : TrL w8 (fun j => ¬ AtB A j ∧ Del m A' j) rs acc := TrL.mono hdel _ _ h.tr
  have tk : Tr w8 (fun j => ¬ AtB A j ∧ Del m A' j) rk vk := Tr.mono (fun j hj hd => hdel j hj ⟨by omega, fun ⟨a, ha, hb⟩ => by have := hA a ha; omega⟩) _ _ htk
  have tx : Tr w8 (fun j => ¬ AtB A j ∧ Del m A' j) rx vx := Tr.mono (fun j hj hd => hdel j hj ⟨by omega, fun ⟨a, ha, hb⟩ => by have := hA a ha; omega⟩) _ _ htx
  have t2 : TrL w8 (fun j => ¬ AtB A j ∧ Del m A' j) (rs.take (2 * mm) ++ rk :: rx :: rs.drop (2 * mm)) (insN acc mm vk vx) := TrL.app (t1.take _) ⟨tk, tx, t1.drop _⟩
  have t3 := TrL.mono (D' := fun j => Del m A' j) (fun _ _ hd => hd.2) _ _ (TrL.keep hap.keep (fun j hd => hd.1) _ _ t2)
  have t4 := TrL.keep k12 (fun j hd e => by
    rcases e with e | e
    · exact hd.2 e
    · have := hd.1; omega) _ _ t3
  have hlen : (rs.take (2 * mm) ++ rk :: rx :: rs.drop (2 * mm)).length = rs.length + 2 := by
    simp only [List.length_append, List.length_take, List.length_cons, List.length_drop]
    omega
  refine ⟨⟨ho, hA', fun a ha => ?_, t4, ?_, ?_⟩, ?_⟩
  · rcases hap.lies a ha with ⟨a0, h0, h1⟩ | ⟨h1, h2⟩
    · have := h.lt a0 h0; have := hap.keep.size; have := k12.size; omega
    · have := k12.size; omega
  · rw [hlen]; exact hce
  · exact hth
  · refine (hap.keep.mono (fun _ _ h => .inl h)).trans k12 (fun j hj e => ?_)
    rcases e with ⟨a, ha, hb⟩ | e
    · rcases hap.lies a ha with ⟨a0, h0, h1⟩ | ⟨h1, _⟩
      · exact .inl ⟨a0, h0, by omega⟩
      · exact .inr (.inr (by omega))
    · exact .inr (.inl e)
end Go.Proofs.YteekndchkgdccaaGreatDoor

/- A list that grows in its middle: what moves, what is put in. -/
namespace Go.Proofs.YteekndchkgdccaaGreatDoor
open Go.RowKit

theorem sizeValue : (Tryz.prog.info? 35).map (·.size) = some ER.sz := by kernel_rfl
/-- a slice's two new elements -/
theorem two_sl (w : World) (r r2 : Raw) (T : TypeId) : Sl ER (w.alloc (.cells (ER.cells r ++ ER.cells r2).toArray T)) (some ⟨w.heap.size, 0, none⟩) 2 [r, r2] :=
  ⟨Nat.le_refl _, by decide, fun _ => ⟨_, _, rfl, range_alloc_new w _ T _ (fun j v hj => by simpa [El.flat_cons, El.flat_nil] using hj)⟩⟩
theorem sixteen {W : World} {b p : Nat} (h : W.there b p 16) : ∃ v0 v1 v2 v3 v4 v5 v6 v7 v8 v9 v10 v11 v12 v13 v14 v15, (W.cell? ⟨b, p, none⟩ = some v0 ∧ W.cell? ⟨b, p + 1, none⟩ = some v1 ∧ W.cell? ⟨b, p + 2, none⟩ = some v2 ∧ W.cell? ⟨b, p + 3, none⟩ = some v3 ∧ W.cell? ⟨b, p + 4, none⟩ = some v4 ∧ W.cell? ⟨b, p + 5, none⟩ = some v5 ∧ W.cell? ⟨b, p + 6, none⟩ = some v6 ∧ W.cell? ⟨b, p + 7, none⟩ = some v7 ∧ W.cell? ⟨b, p + 8, none⟩ = some v8 ∧ W.cell? ⟨b, p + 9, none⟩ = some v9 ∧ W.cell? ⟨b, p + 10, none⟩ = some v10 ∧ W.cell? ⟨b, p + 11, none⟩ = some v11 ∧ W.cell? ⟨b, p + 12, none⟩ = some v12 ∧ W.cell? ⟨b, p + 13, none⟩ = some v13 ∧ W.cell? ⟨b, p + 14, none⟩ = some v14 ∧ W.cell? ⟨b, p + 15, none⟩ = some v15) ∧ W.frozen? ⟨b, p, none⟩ = false ∧ W.frozen? ⟨b, p + 1, none⟩ = false ∧ W.frozen? ⟨b, p + 2, none⟩ = false ∧ W.frozen? ⟨b, p + 3, none⟩ = false ∧ W.frozen? ⟨b, p + 4, none⟩ = false ∧ W.frozen? ⟨b, p + 5, none⟩ = false ∧ W.frozen? ⟨b, p + 6, none⟩ = false ∧ W.frozen? ⟨b, p + 7, none⟩ = false ∧ W.frozen? ⟨b, p + 8, none⟩ = false ∧ W.frozen? ⟨b, p + 9, none⟩ = false ∧ W.frozen? ⟨b, p + 10, none⟩ = false ∧ W.frozen? ⟨b, p + 11, none⟩ = false ∧ W.frozen? ⟨b, p + 12, none⟩ = false ∧ W.frozen? ⟨b, p + 13, none⟩ = false ∧ W.frozen? ⟨b, p + 14, none⟩ = false ∧ W.frozen? ⟨b, p + 15, none⟩ = false := by
  have c : ∀ j, j < 16 → ∃ v, W.cell? ⟨b, p + j, none⟩ = some v := fun j hj => by
    have := (h j hj).1
    exact Option.isSome_iff_exists.1 this
  obtain ⟨v0, h0⟩ := c 0 (by decide)
  obtain ⟨v1, h1⟩ := c 1 (by decide)
  obtain ⟨v2, h2⟩ := c 2 (by decide)
  obtain ⟨v3, h3⟩ := c 3 (by decide)
  obtain ⟨v4, h4⟩ := c 4 (by decide)
  obtain ⟨v5, h5⟩ := c 5 (by decide)
  obtain ⟨v6, h6⟩ := c 6 (by decide)
  obtain ⟨v7, h7⟩ := c 7 (by decide)
  obtain ⟨v8, h8⟩ := c 8 (by decide)
  obtain ⟨v9, h9⟩ := c 9 (by decide)
  obtain ⟨v10, h10⟩ := c 10 (by decide)
  obtain ⟨v11, h11⟩ := c 11 (by decide)
  obtain ⟨v12, h12⟩ := c 12 (by decide)
  obtain ⟨v13, h13⟩ := c 13 (by decide)
  obtain ⟨v14, h14⟩ := c 14 (by decide)
  obtain ⟨v15, h15⟩ := c 15 (by decide)
  exact ⟨v0, v1, v2, v3, v4, v5, v6, v7, v8, v9, v10, v11, v12, v13, v14, v15, ⟨h0, h1, h2, h3, h4, h5, h6, h7, h8, h9, h10, h11, h12, h13, h14, h15⟩, (h 0 (by decide)).2, (h 1 (by decide)).2, (h 2 (by decide)).2, (h 3 (by decide)).2, (h 4 (by decide)).2, (h 5 (by decide)).2, (h 6 (by decide)).2, (h 7 (by decide)).2, (h 8 (by decide)).2, (h 9 (by decide)).2, (h 10 (by decide)).2, (h 11 (by decide)).2, (h 12 (by decide)).2, (h 13 (by decide)).2, (h 14 (by decide)).2, (h 15 (by decide)).2⟩
/-- the elements from a on moved two places up -/
theorem shifted {w w' : World} {bA oA c a L : Nat} {rs : List Raw} {k x : Raw} (h : Ow ER w (some ⟨bA, oA, none⟩) c (rs ++ [k, x])) (hL : rs.length = L) (ha : a ≤ L) (h0 : L - a = 0 → w' = w)
    (h1 : ∀ b o, 0 < L - a → cutA (some ⟨bA, oA, none⟩) c (a + 2) 8 = some ⟨b, o, none⟩ → w' = w.setCells b o (ER.flat (((rs ++ [k, x]).drop a).take (L - a)))) :
    Ow ER w' (some ⟨bA, oA, none⟩) c ((rs ++ [k, x]).take (a + 2) ++ rs.drop a) ∧ Keep (· = bA) w w' := by
  have hle : L + 2 ≤ c := by have := h.sl.le; rw [List.length_append, hL] at this; exact this
  rcases Nat.eq_zero_or_pos (L - a) with hz | hz
  · have ea : a = L := by omega
    have := h0 hz
    subst this
    rw [List.take_of_length_le (by simp; omega), List.drop_eq_nil_of_le (by omega), List.append_nil]
    exact ⟨h, Keep.refl _ _⟩
  · have e1 : cutA (some ⟨bA, oA, none⟩) c (a + 2) 8 = some ⟨bA, oA + (a + 2) * 8, none⟩ := by
      unfold cutA
      rw [if_neg (by omega), Option.map_some, Addr.add_mid]
    have e2 : ((rs ++ [k, x]).drop a).take (L - a) = rs.drop a := by
      rw [List.drop_append_of_le_length (by omega), List.take_append_of_le_length (by simp; omega), List.take_of_length_le (by simp; omega)]
    have e3 := h1 _ _ hz e1
    rw [e2] at e3
    have hp := Ow.puts (i := a + 2) h (rs.drop a) (by simp; omega) (by simp)
    rw [List.drop_eq_nil_of_le (show (rs ++ [k, x]).length ≤ a + 2 + (rs.drop a).length by simp; omega), List.append_nil] at hp
    rw [e3]
    exact ⟨hp, (Keep.refl _ w).setCells _ _ (fun _ => rfl)⟩
/-- two elements put in -/
theorem placed {w : World} {bA oA c a L : Nat} {rs : List Raw} {k x : Raw} (h : Ow ER w (some ⟨bA, oA, none⟩) c ((rs ++ [k, x]).take (a + 2) ++ rs.drop a)) (hL : rs.length = L) (ha : a ≤ L) :
    Ow ER (w.setCells bA (oA + a * 8) (ER.flat [k, x])) (some ⟨bA, oA, none⟩) c (rs.take a ++ k :: x :: rs.drop a) := by
  have hl : ((rs ++ [k, x]).take (a + 2)).length = a + 2 := by simp; omega
  have hp := Ow.puts (i := a) h [k, x] (by simp; omega) (fun e => by have := congrArg List.length e; rw [List.length_append, hl] at this; simp at this)
  rw [List.take_append_of_le_length (by omega), List.take_take, Nat.min_eq_left (by omega), List.take_append_of_le_length (by omega), List.drop_append_of_le_length (by rw [hl]; simp), List.drop_eq_nil_of_le (show ((rs ++ [k, x]).take (a + 2)).length ≤ a + [k, x].length by rw [hl]; simp), List.nil_append] at hp
  exact hp
theorem two_there {w : World} {bA oA c a : Nat} {xs : List Raw} (h : Ow ER w (some ⟨bA, oA, none⟩) c xs) (ha : a + 2 ≤ c) : w.there bA (oA + a * 8) 16 := by
  obtain ⟨b', o', e', ht⟩ := h.room (by omega)
  simp only [Option.some.injEq, Addr.mk.injEq, and_true] at e'
  obtain ⟨rfl, rfl⟩ := e'
  exact there_sub ht (by omega) (by simp only [ER]; omega)
end Go.Proofs.YteekndchkgdccaaGreatDoor

/- packread's family of maps: the walk. -/
namespace Go.Proofs.YteekndchkgdccaaGreatDoor
open Go.RowKit

theorem SmL.app : ∀ {l l2 : List V} (_ : SmL l) (_ : SmL l2), SmL (l ++ l2)
  | [], _, _, h => h
  | _ :: _, _, h1, h => ⟨h1.1, SmL.app h1.2 h⟩
theorem SmL.take : ∀ {l : List V} (_ : SmL l) (n : Nat), SmL (l.take n)
  | [], _, n => by rw [List.take_nil]; trivial
  | _ :: _, _, 0 => trivial
  | _ :: _, h, n + 1 => ⟨h.1, SmL.take h.2 n⟩
theorem SmL.drop : ∀ {l : List V} (_ : SmL l) (n : Nat), SmL (l.drop n)
  | [], _, n => by rw [List.drop_nil]; trivial
  | _ :: _, h, 0 => h
  | _ :: _, h, n + 1 => SmL.drop h.2 n
theorem SmL.ins {l : List V} (h : SmL l) (m : Nat) {k x : V} (hk : Sm k) (hx : Sm x) : SmL (insN l m k x) := SmL.app (h.take _) ⟨hk, hx, h.drop _⟩
theorem insN_len (l : List V) (m : Nat) (k x : V) : (insN l m k x).length = l.length + 2 := by
  unfold insN
  simp only [List.length_append, List.length_take, List.length_cons, List.length_drop]
  omega
end Go.Proofs.YteekndchkgdccaaGreatDoor

/- packread's families, by name. -/
namespace Go.Proofs.YteekndchkgdccaaGreatDoor
open Go.RowKit

def Wd : Words := ⟨ofV 23 (-149) 8, ofV 52 (-1074) 11, wholeV, belowV, twosV, cmpV⟩
/-- what a family may be asked -/
def fits : Fam → Nat → Prop
  | .below, n => 0 < n ∧ n ≤ 256
  | .word, n => n ≤ 2
  | .single, n => n < 4294967296
  | .signed, n => 0 < n ∧ n ≤ 8
  | _, n => n < 18446744073709551616
def fitsH : Fam → Nat → Bool
  | .below, n => decide (0 < n ∧ n ≤ 256)
  | .word, n => decide (n ≤ 2)
  | .single, _ => false
  | .signed, n => decide (0 < n ∧ n ≤ 8)
  | _, n => decide (n < 18446744073709551616)
def fitsW : Fam → Nat → Bool
  | .single, k => decide (k = 4)
  | .below, _ => false
  | .word, _ => false
  | .signed, _ => false
  | _, _ => true
def fitsB (x : Option (Fam × Nat × Nat)) : Bool := match x with
  | none => true
  | some (f, n, k) => (decide (k = 0) && fitsH f n) || (decide (0 < k) && decide (k ≤ 8) && fitsW f k)
theorem pick_fitsB : (List.range 256).all (fun c => fitsB (pickN c)) = true := by kernel_rfl
theorem pick_fits {c : Nat} (h : c < 256) : fitsB (pickN c) = true := List.all_eq_true.1 pick_fitsB c (List.mem_range.2 h)
theorem fits_here {c n k : Nat} {f : Fam} (h : c < 256) (hp : pickN c = some (f, n, k)) : k ≤ 8 ∧ (k = 0 → fits f n) := by
  have h1 := pick_fits h
  rw [hp] at h1
  simp only [fitsB, Bool.or_eq_true, Bool.and_eq_true, decide_eq_true_eq] at h1
  refine ⟨by omega, fun hk => ?_⟩
  have h2 : fitsH f n = true := by
    rcases h1 with h1 | h1
    · exact h1.2
    · omega
  cases f <;> simp only [fitsH, fits, decide_eq_true_eq] at h2 ⊢ <;> first | exact h2 | cases h2
theorem beN_fold : ∀ (l : List Nat) (x : Nat), (∀ y ∈ l, y < 256) → l.foldl (fun x b => x * 256 + b) x < (x + 1) * 256 ^ l.length
  | [], x, _ => by simp
  | y :: l, x, h => by
    have h1 := beN_fold l (x * 256 + y) (fun z hz => h z (by simp [hz]))
    have h2 := h y (by simp)
    refine Nat.lt_of_lt_of_le h1 ?_
    rw [List.length_cons, Nat.pow_succ, Nat.mul_comm (256 ^ l.length) 256, ← Nat.mul_assoc]
    exact Nat.mul_le_mul_right _ (by omega)
theorem bl_lt (t : ByteArray) : ∀ y ∈ bl t, y < 256 := fun y hy => by
  unfold bl at hy
  obtain ⟨u, _, rfl⟩ := List.mem_map.1 hy
  exact UInt8.toNat_lt u
theorem beN_lt (t : ByteArray) : beN (bl t) < 256 ^ t.size := by
  have := beN_fold (bl t) 0 (bl_lt t)
  rw [bl_len] at this
  simpa [beN] using this
theorem fits_read {c n k : Nat} {f : Fam} (h : c < 256) (hp : pickN c = some (f, n, k)) (hk : k ≠ 0) {t : ByteArray} (ht : t.size = k) : fits f (beN (bl t)) := by
  have h1 := pick_fits h
  rw [hp] at h1
  have h2 := beN_lt t
  rw [ht] at h2
  simp only [fitsB, Bool.or_eq_true, Bool.and_eq_true, decide_eq_true_eq] at h1
  have h5 : k ≤ 8 := by omega
  have h6 : fitsW f k = true := by
    rcases h1 with h1 | h1
    · exact absurd h1.1 hk
    · exact h1.2
  have h3 : 256 ^ k ≤ 256 ^ 8 := Nat.pow_le_pow_right (by decide) h5
  have h4 : beN (bl t) < 18446744073709551616 := Nat.lt_of_lt_of_le h2 h3
  cases f <;> simp only [fitsW, fits, decide_eq_true_eq] at h6 ⊢ <;> first | exact h4 | cases h6
  exact h2
theorem quiet_fam {sa : Nat → Addr} {b p fr op k : Nat} {s : ByteArray} {w : World} {args : Array Value} {v : V} (hr : Rd w b s p fr op)
    (h : Calls Tryz.prog k args w fun e w' => Keep nob w w' ∧ ∃ r, e = .returned (.tuple #[ER.val r, .nilIface]) ∧ Tr w' (fun k => w.heap.size ≤ k) r v) : Calls Tryz.prog k args w (FamPost sa b s op w (.ok v p)) :=
  h.mono (fun _ _ ⟨k, r, he, ht⟩ => ⟨k.mono (fun _ _ h => h.elim), ⟨_, hr.keep k (fun h => h)⟩, r, he, ht⟩)
end Go.Proofs.YteekndchkgdccaaGreatDoor

/- packread's items: the walk. -/
namespace Go.Proofs.YteekndchkgdccaaGreatDoor
open Go.RowKit

end Go.Proofs.YteekndchkgdccaaGreatDoor

/- What is read is of a size that memory has; items at any depth. -/
namespace Go.Proofs.YteekndchkgdccaaGreatDoor
open Go.RowKit

theorem sm_mk {k n : Nat} {neg : Bool} {mag : List Nat} {bits : Nat} {ext : Int} {text : ByteArray} {kids : List V} (h1 : mag.length ≤ 1000000000) (h2 : kids.length ≤ 1000000000) (h3 : bits < 18446744073709551616) (h4 : SmL kids) : Sm (.mk k n neg mag bits ext text kids) := by
  unfold Sm
  exact ⟨h1, h2, h3, h4⟩
theorem smL_nil : SmL [] := by
  unfold SmL
  trivial
theorem sm_int {neg : Bool} {mag : List Nat} (h : mag.length ≤ 1000000000) : Sm (V.int neg mag) := sm_mk h (Nat.zero_le _) (by decide) smL_nil
theorem sm_flat {k n : Nat} {neg : Bool} {bits : Nat} {ext : Int} {text : ByteArray} (h : bits < 18446744073709551616) : Sm (.mk k n neg [] bits ext text []) := sm_mk (Nat.zero_le _) (Nat.zero_le _) h smL_nil
theorem cutL_le (l : List Nat) : (cutL l).length ≤ l.length := by rw [cutL_len]; exact cutN_le _ _
theorem ofV_sm {F X x : Nat} {L : Int} (hF : F ≤ 52) (hL : -1074 ≤ L) (hX : 2 ^ X ≤ 2048) (hL0 : L ≤ 0) (hE : L + ((2 ^ X : Nat) : Int) ≤ 1000) : Sm (ofV F L X x) := by
  unfold ofV intN to64N
  cases hp : partsN F L X x with
  | none =>
    dsimp only
    refine sm_flat ?_
    split
    · unfold signed64N; split <;> decide
    · decide
  | some y =>
    obtain ⟨neg, m, e⟩ := y
    obtain ⟨h1, h2, h3⟩ := parts_bd hF hL hX hL0 hE hp
    dsimp only
    by_cases he : e < 0
    · rw [if_pos he]
      exact sm_flat (exact64_lt h1 h2)
    · rw [if_neg he]
      obtain ⟨K, hK⟩ : ∃ K : Nat, K = 1100 := ⟨_, rfl⟩
      obtain ⟨f, hf⟩ : ∃ f : Nat, f = 37 := ⟨_, rfl⟩
      refine sm_int (Nat.le_trans (numL_len_le (f := f) ?_) (by omega))
      have h4 : 2 ^ e.toNat ≤ 2 ^ K := Nat.pow_le_pow_right (by decide) (by omega)
      have h5 : m * 2 ^ e.toNat ≤ 2 ^ 53 * 2 ^ K := Nat.mul_le_mul (by omega) h4
      rw [← Nat.pow_add] at h5
      rw [show (4294967296 : Nat) = 2 ^ 32 by decide, ← Nat.pow_mul]
      exact Nat.lt_of_le_of_lt h5 (Nat.pow_lt_pow_right (by decide) (by omega))
theorem two_sm (x : Nat) : (cutL (cutL (two32 x))).length ≤ 1000000000 := Nat.le_trans (cutL_le _) (Nat.le_trans (cutL_le _) (by simp [two32]))
theorem twos_sm (t : ByteArray) (h : t.size ≤ 1000000000) : Sm (twosV t) := by
  refine sm_int (Nat.le_trans (cutL_le _) (Nat.le_trans (cutL_le _) ?_))
  rw [twoL, limbG_len, List.length_replicate]
  omega
/-- what a reading of items is known to do -/
def Does (s : ByteArray) (it : Nat → R V) : Prop := ∀ p v q, p ≤ s.size → it p = .ok v q → (p < q ∧ q ≤ s.size) ∧ Sm v
theorem rounds_sm {s : ByteArray} {it : Nat → R V} (hg : Does s it) : ∀ (n p : Nat) (acc l : List V) (q : Nat), p ≤ s.size → acc.length ≤ p → SmL acc → roundsN it n p acc = .ok l q → l.length ≤ s.size ∧ SmL l
  | 0, p, acc, l, q, hp, ha, hs, h => by
    rw [roundsN] at h
    cases h
    exact ⟨by omega, hs⟩
  | n + 1, p, acc, l, q, hp, ha, hs, h => by
    rw [roundsN] at h
    cases hi : it p with
    | bad c x => rw [hi] at h; cases h
    | ok v x =>
      rw [hi] at h
      obtain ⟨⟨h1, h2⟩, h3⟩ := hg p v x hp hi
      exact rounds_sm hg n x (acc ++ [v]) l q h2 (by rw [List.length_append, List.length_singleton]; omega) (SmL.app hs ⟨h3, smL_nil⟩) h
theorem pairs_sm {s : ByteArray} {it : Nat → R V} (hg : Does s it) : ∀ (n p : Nat) (acc l : List V) (q : Nat), p ≤ s.size → acc.length ≤ p → SmL acc → pairsN Wd it n p acc = .ok l q → l.length ≤ s.size ∧ SmL l
  | 0, p, acc, l, q, hp, ha, hs, h => by
    rw [pairsN] at h
    cases h
    exact ⟨by omega, hs⟩
  | n + 1, p, acc, l, q, hp, ha, hs, h => by
    rw [pairsN] at h
    cases hi : it p with
    | bad c x => rw [hi] at h; cases h
    | ok key x =>
      rw [hi] at h
      obtain ⟨⟨h1, h2⟩, h3⟩ := hg p key x hp hi
      dsimp only [R.bind] at h
      split at h
      · cases h
      · cases hi2 : it x with
        | bad c y => rw [hi2] at h; cases h
        | ok v y =>
          rw [hi2] at h
          obtain ⟨⟨h4, h5⟩, h6⟩ := hg x v y h2 hi2
          exact pairs_sm hg n y _ l q h5 (by rw [insN_len]; omega) (SmL.ins hs _ h3 h6) h
theorem fam_sm {s : ByteArray} (hs : s.size ≤ 1000000000) {inner : Option (Nat → R V)} (hg : ∀ it, inner = some it → Does s it) (fr : Nat) (f : Fam) (n p : Nat) (hp : p ≤ s.size) {v : V} {q : Nat} (h : famR Wd s inner fr f n p = .ok v q) : Sm v := by
  cases f <;> simp only [famR] at h
  case whole => cases h; exact sm_int (two_sm n)
  case below => cases h; exact sm_int (two_sm n)
  case word =>
    split at h <;> cases h <;> exact sm_flat (by decide)
  case single => cases h; exact ofV_sm (by decide) (by decide) (by decide) (by decide) (by decide)
  case double => cases h; exact ofV_sm (by decide) (by decide) (by decide) (by decide) (by decide)
  case text =>
    cases ht : textR s p n with
    | ok t x => rw [ht] at h; cases h; exact sm_flat (by decide)
    | bad c x => rw [ht] at h; cases h
  case bytes =>
    cases ht : takeR s p n with
    | ok t x => rw [ht] at h; cases h; exact sm_flat (by decide)
    | bad c x => rw [ht] at h; cases h
  case ext =>
    cases ht : takeR s p 1 with
    | bad c x => rw [ht] at h; cases h
    | ok e x =>
      rw [ht] at h
      dsimp only [R.bind] at h
      cases ht2 : takeR s x n with
      | ok t y => rw [ht2] at h; cases h; exact sm_flat (by decide)
      | bad c y => rw [ht2] at h; cases h
  case signed =>
    cases ht : takeR s p n with
    | ok t x =>
      rw [ht] at h
      cases h
      obtain ⟨e, _, _⟩ := take_size ht
      exact twos_sm t (by rw [e, ByteArray.size_extract]; omega)
    | bad c x => rw [ht] at h; cases h
  case list =>
    cases inner with
    | none => cases h
    | some it =>
      dsimp only at h
      cases hr : roundsN it n p [] with
      | bad c x => rw [hr] at h; cases h
      | ok l x =>
        rw [hr] at h
        cases h
        obtain ⟨h1, h2⟩ := rounds_sm (hg it rfl) n p [] l q hp (Nat.zero_le _) smL_nil hr
        exact sm_mk (Nat.zero_le _) (by omega) (by decide) h2
  case pairs =>
    cases inner with
    | none => cases h
    | some it =>
      dsimp only at h
      cases hr : pairsN Wd it n p [] with
      | bad c x => rw [hr] at h; cases h
      | ok l x =>
        rw [hr] at h
        cases h
        obtain ⟨h1, h2⟩ := pairs_sm (hg it rfl) n p [] l q hp (Nat.zero_le _) smL_nil hr
        exact sm_mk (Nat.zero_le _) (by omega) (by decide) h2
theorem itemF_sm {s : ByteArray} (hs : s.size ≤ 1000000000) {inner : Option (Nat → R V)} (hg : ∀ it, inner = some it → Does s it) {p : Nat} (hp : p ≤ s.size) {v : V} {q : Nat} (h : itemF Wd s inner p = .ok v q) : Sm v := by
  unfold itemF at h
  cases ht : takeR s p 1 with
  | bad c x => rw [ht] at h; cases h
  | ok t p1 =>
    rw [ht] at h
    dsimp only [R.bind] at h
    obtain ⟨_, _, h1⟩ := take_size ht
    have h1 := h1 hp
    cases hk : pickN ((bl t).headD 0) with
    | none => rw [hk] at h; cases h
    | some y =>
      obtain ⟨f, n, k⟩ := y
      rw [hk] at h
      dsimp only at h
      split at h
      · exact fam_sm hs hg p f n p1 h1 h
      · cases ht2 : takeR s p1 k with
        | bad c x => rw [ht2] at h; cases h
        | ok t2 p2 =>
          rw [ht2] at h
          obtain ⟨_, _, h2⟩ := take_size ht2
          exact fam_sm hs hg p f _ p2 (h2 h1) h
theorem item_does {s : ByteArray} (hs : s.size ≤ 1000000000) : ∀ d, Does s (itemN Wd s d)
  | 0 => fun p v q hp h => by
    have h1 := itemN_ge Wd s 0 p
    have h2 := itemN_le Wd s 0 p hp
    rw [h] at h1 h2
    exact ⟨⟨h1, h2⟩, itemF_sm (inner := none) hs (fun _ e => by cases e) hp h⟩
  | d + 1 => fun p v q hp h => by
    have h1 := itemN_ge Wd s (d + 1) p
    have h2 := itemN_le Wd s (d + 1) p hp
    rw [h] at h1 h2
    exact ⟨⟨h1, h2⟩, itemF_sm (inner := some (itemN Wd s d)) hs (fun it e => by cases e; exact item_does hs d) hp h⟩
end Go.Proofs.YteekndchkgdccaaGreatDoor

/- packread.Next at 0, Read. -/
namespace Go.Proofs.YteekndchkgdccaaGreatDoor
open Go.RowKit

theorem ret_vtt {fn : Func} {p u u2 : Tmp} {R : Ending → World → Prop} {a : Act} {w : World} {b : Nat} {r : Raw} {v v2 : Value} (h : fn.results = #[.cell p 35, .tmp u, .tmp u2]) (hp : a.tmps.getD p undef = .pointer (some ⟨b, 0, none⟩)) (hv : a.tmps.getD u undef = v) (hv2 : a.tmps.getD u2 undef = v2) (hd : a.defers = [])
    (hr : w.rangeAt b 0 (ER.cells r)) (hR : R (.returned (.tuple #[ER.val r, v, v2])) w) : bodyPost Tryz.prog fn R .ret a w := by
  refine bodyPost_ret (v := .tuple #[ER.val r, v, v2]) ?_ hd hR
  have hl := load_val hr
  have hp' : a.tmps[p]?.getD undef = .pointer (some ⟨b, 0, none⟩) := by rw [← hp]; simp
  have hv' : a.tmps[u]?.getD undef = v := by rw [← hv]; simp
  have hv2' : a.tmps[u2]?.getD undef = v2 := by rw [← hv2]; simp
  simp [results, h, hp', hv', hv2', asAddr, hl]
/-- what Next answers -/
def NextPost (sa : Nat → Addr) (w : World) (x : R V) (e : Ending) (w' : World) : Prop := match x with
  | .ok v q => Keep nob w w' ∧ ∃ r, e = .returned (.tuple #[ER.val r, .int .i64 (q : Int), .nilIface]) ∧ Tr w' (fun k => w.heap.size ≤ k) r v
  | .bad c q => ∃ ev, e = .returned (.tuple #[ER.val Raw.zero, .int .i64 0, ev]) ∧ Keep nob w w' ∧ FErr sa w' (fun k => w.heap.size ≤ k) ev c q
theorem rd_new (w : World) (s : ByteArray) (p : Nat) (T : TypeId) : Rd (w.alloc (.cells #[.string s, .int .i64 (p : Int), .int .i64 0, .int .i64 0] T)) w.heap.size s p 0 0 :=
  ⟨by simp, by simp, by simp, by simp, fun i _ => by simp⟩
/-- what Read answers -/
def ReadPost (sa : Nat → Addr) (w : World) (x : R V) (e : Ending) (w' : World) : Prop := match x with
  | .ok v _ => Keep nob w w' ∧ ∃ r, e = .returned (.tuple #[ER.val r, .nilIface]) ∧ Tr w' (fun k => w.heap.size ≤ k) r v
  | .bad c q => ∃ ev, e = .returned (.tuple #[ER.val Raw.zero, ev]) ∧ Keep nob w w' ∧ FErr sa w' (fun k => w.heap.size ≤ k) ev c q
end Go.Proofs.YteekndchkgdccaaGreatDoor

/- errors.Is at the package's errors. -/
namespace Go.Proofs.YteekndchkgdccaaGreatDoor
open Go.RowKit Go.Extern.Stop Go.Stop Go.Extern Go.Extern.Rtype

theorem isTypeOf (v : Value) (w : World) : (Extern.ReflectliteType.typeOf #[.iface 194 v]).run Tryz.prog w = .ok (.iface 115 (.agg #[.pointer (some ⟨17, 194, none⟩)])) w := by kernel_rfl
theorem isMethodComparable (v : Value) (w : World) : (Go.method 327 115 v "Comparable").run Tryz.prog w = .ok (138, v) w := by kernel_rfl
theorem isComparable (w : World) : ((Extern.ReflectliteType.method fun t => do noPackHeld "Comparable" t; pure (.bool (← typeInfo t).comparable)) #[.agg #[.pointer (some ⟨17, 194, none⟩)]]).run Tryz.prog w = .ok (.bool true) w := by kernel_rfl
theorem callComparable (w : World) : (callFunc 138 #[.agg #[.pointer (some ⟨17, 194, none⟩)]]).run Tryz.prog w = .ok (.value (.bool true)) w := by
  rw [@run_callFunc_extern Tryz.prog 138 _ (Extern.ReflectliteType.method fun t => do noPackHeld "Comparable" t; pure (.bool (← typeInfo t).comparable)) Tryz.func138 (by kernel_rfl) (by kernel_rfl) (by kernel_rfl) (by kernel_rfl), isComparable]
  rfl
theorem isComp : (Tryz.prog.info? 194).map (·.comparable) = some true := by kernel_rfl
theorem isSize : (Tryz.prog.info? 217).map (·.size) = some 1 := by kernel_rfl
theorem noIsE (v : Value) (xT : TypeId) (w : World) : (Instr.typeAssert (.iface 194 v) xT 117 true).run Tryz.prog w = .ok (.tuple #[.nilIface, .bool false]) w := run_typeAssert_lacksB Tryz.underlying117 (by kernel_rfl) (by kernel_rfl) v xT w
theorem noUnwrapE (v : Value) (xT : TypeId) (w : World) : (Instr.typeAssert (.iface 194 v) xT 120 true).run Tryz.prog w = .ok (.tuple #[.nilIface, .bool false]) w := run_typeAssert_lacksB Tryz.underlying120 (by kernel_rfl) (by kernel_rfl) v xT w
theorem noUnwrapsE (v : Value) (xT : TypeId) (w : World) : (Instr.typeAssert (.iface 194 v) xT 122 true).run Tryz.prog w = .ok (.tuple #[.nilIface, .bool false]) w := run_typeAssert_lacksB Tryz.underlying122 (by kernel_rfl) (by kernel_rfl) v xT w
theorem noIsW (v : Value) (xT : TypeId) (w : World) : (Instr.typeAssert (.iface 77 v) xT 117 true).run Tryz.prog w = .ok (.tuple #[.nilIface, .bool false]) w := run_typeAssert_lacksB Tryz.underlying117 (by kernel_rfl) (by kernel_rfl) v xT w
theorem hasUnwrapW (v : Value) (xT : TypeId) (w : World) : (Instr.typeAssert (.iface 77 v) xT 120 true).run Tryz.prog w = .ok (.tuple #[.iface 77 v, .bool true]) w := run_typeAssert_hasB Tryz.underlying120 (by kernel_rfl) v xT w
theorem methodUnwrap (v : Value) (w : World) : (Go.method 327 77 v "Unwrap").run Tryz.prog w = .ok (133, v) w := by kernel_rfl
theorem unwrap_ok (pb : Nat) (v : Value) (w : World) (h : w.cell? ⟨pb, 0, none⟩ = some v) : Calls Tryz.prog 133 #[.pointer (some ⟨pb, 0, none⟩)] w fun e w' => e = .returned v ∧ w' = w := by
  go_enter Tryz.func133, Tryz.ntmps133
  go_wp2
  go_ret
  exact ⟨rfl, rfl⟩
set_option maxRecDepth 100000 in
theorem is_same_is (a : Addr) (w : World) : Calls Tryz.prog 36 #[.iface 194 (.pointer (some a)), .iface 194 (.pointer (some a)), .bool true] w fun e w' => e = .returned (.bool true) ∧ w' = w := by
  obtain ⟨i, hi, hcmp⟩ := Option.map_eq_some_iff.1 isComp
  obtain ⟨j, hj, hjs⟩ := Option.map_eq_some_iff.1 isSize
  have nE := noIsE
  have uE := noUnwrapE
  have vE := noUnwrapsE
  have nW := noIsW
  have uW := hasUnwrapW
  have mU := methodUnwrap
  have heq := run_eql_iface_ptr_same (P := Tryz.prog) w a Tryz.underlying37 Tryz.underlying194 hi hcmp hj
  go_enter Tryz.func36, Tryz.ntmps36
  go_wp2
  refine wp_loop_rounds 1 ?_
  rw [rounds_succ]
  go_wp2_with (fail)
  go_ret
  exact ⟨rfl, rfl⟩
set_option maxRecDepth 100000 in
/-- errors.Is: x, x -/
theorem is_same (a : Addr) (w : World) : Calls Tryz.prog 16 #[.iface 194 (.pointer (some a)), .iface 194 (.pointer (some a))] w fun e w' => e = .returned (.bool true) ∧ w' = w := by
  have HIS := Lib.hid (is_same_is a w)
  obtain ⟨i, hi, hcmp⟩ := Option.map_eq_some_iff.1 isComp
  obtain ⟨j, hj, hjs⟩ := Option.map_eq_some_iff.1 isSize
  have h8 := @run_callFunc_extern Tryz.prog 35 _ Extern.ReflectliteType.typeOf Tryz.func35 (by kernel_rfl) (by kernel_rfl) (by kernel_rfl) (by kernel_rfl)
  have tT := isTypeOf
  have cC := callComparable
  have mR := isMethodComparable
  go_enter Tryz.func16, Tryz.ntmps16
  go_wp2_with (go_at_call 36; go_must (refine (HIS.out).mono ?_); rintro e w1 ⟨rfl, rfl⟩)
  go_ret
  exact ⟨rfl, rfl⟩
set_option maxRecDepth 100000 in
theorem is_other_is (a b : Addr) (ca cb : Array Value) (ta tb : TypeId) (w : World) (hne : a ≠ b) (ha : w.heap[a.block]? = some (.cells ca ta (0, 0))) (hb : w.heap[b.block]? = some (.cells cb tb (0, 0))) : Calls Tryz.prog 36 #[.iface 194 (.pointer (some a)), .iface 194 (.pointer (some b)), .bool true] w fun e w' => e = .returned (.bool false) ∧ w' = w := by
  obtain ⟨i, hi, hcmp⟩ := Option.map_eq_some_iff.1 isComp
  obtain ⟨j, hj, hjs⟩ := Option.map_eq_some_iff.1 isSize
  have nE := noIsE
  have uE := noUnwrapE
  have vE := noUnwrapsE
  have nW := noIsW
  have uW := hasUnwrapW
  have mU := methodUnwrap
  have heq := run_eql_iface_ptr_other (P := Tryz.prog) w Tryz.underlying37 Tryz.underlying194 hi hcmp hj (by rw [hjs]; decide) hne ha hb
  go_enter Tryz.func36, Tryz.ntmps36
  go_wp2
  refine wp_loop_rounds 1 ?_
  rw [rounds_succ]
  go_wp2_with (fail)
  go_ret
  exact ⟨rfl, rfl⟩
set_option maxRecDepth 100000 in
/-- errors.Is: two sentinels -/
theorem is_other (a b : Addr) (ca cb : Array Value) (ta tb : TypeId) (w : World) (hne : a ≠ b) (ha : w.heap[a.block]? = some (.cells ca ta (0, 0))) (hb : w.heap[b.block]? = some (.cells cb tb (0, 0))) : Calls Tryz.prog 16 #[.iface 194 (.pointer (some a)), .iface 194 (.pointer (some b))] w fun e w' => e = .returned (.bool false) ∧ w' = w := by
  have HIS := Lib.hid (is_other_is a b ca cb ta tb w hne ha hb)
  obtain ⟨i, hi, hcmp⟩ := Option.map_eq_some_iff.1 isComp
  obtain ⟨j, hj, hjs⟩ := Option.map_eq_some_iff.1 isSize
  have h8 := @run_callFunc_extern Tryz.prog 35 _ Extern.ReflectliteType.typeOf Tryz.func35 (by kernel_rfl) (by kernel_rfl) (by kernel_rfl) (by kernel_rfl)
  have tT := isTypeOf
  have cC := callComparable
  have mR := isMethodComparable
  go_enter Tryz.func16, Tryz.ntmps16
  go_wp2_with (go_at_call 36; go_must (refine (HIS.out).mono ?_); rintro e w1 ⟨rfl, rfl⟩)
  go_ret
  exact ⟨rfl, rfl⟩
set_option maxRecDepth 100000 in
theorem is_fault_same_is (pb : Nat) (b : Addr) (w : World) (h1 : w.cell? ⟨pb, 0, none⟩ = some (.iface 194 (.pointer (some b)))) : Calls Tryz.prog 36 #[.iface 77 (.pointer (some ⟨pb, 0, none⟩)), .iface 194 (.pointer (some b)), .bool true] w fun e w' => e = .returned (.bool true) ∧ w' = w := by
  obtain ⟨i, hi, hcmp⟩ := Option.map_eq_some_iff.1 isComp
  obtain ⟨j, hj, hjs⟩ := Option.map_eq_some_iff.1 isSize
  have nE := noIsE
  have uE := noUnwrapE
  have vE := noUnwrapsE
  have nW := noIsW
  have uW := hasUnwrapW
  have mU := methodUnwrap
  have heq := run_eql_iface_ptr_same (P := Tryz.prog) w b Tryz.underlying37 Tryz.underlying194 hi hcmp hj
  have hty := run_eql_iface_types (P := Tryz.prog) 77 194 (.pointer (some ⟨pb, 0, none⟩)) (.pointer (some b)) Tryz.underlying37 (by decide) w
  go_enter Tryz.func36, Tryz.ntmps36
  go_wp2
  refine wp_loop_rounds 2 ?_
  rw [rounds_succ]
  go_wp2_with (go_at_call 133; go_must (refine (unwrap_ok pb _ _ h1).mono ?_); rintro e w1 ⟨rfl, rfl⟩)
  rw [rounds_succ]
  go_wp2_with (fail)
  go_ret
  exact ⟨rfl, rfl⟩
set_option maxRecDepth 100000 in
/-- errors.Is: a fault that wraps x -/
theorem is_fault_same (pb : Nat) (b : Addr) (w : World) (h1 : w.cell? ⟨pb, 0, none⟩ = some (.iface 194 (.pointer (some b)))) : Calls Tryz.prog 16 #[.iface 77 (.pointer (some ⟨pb, 0, none⟩)), .iface 194 (.pointer (some b))] w fun e w' => e = .returned (.bool true) ∧ w' = w := by
  have HIS := Lib.hid (is_fault_same_is pb b w h1)
  obtain ⟨i, hi, hcmp⟩ := Option.map_eq_some_iff.1 isComp
  obtain ⟨j, hj, hjs⟩ := Option.map_eq_some_iff.1 isSize
  have h8 := @run_callFunc_extern Tryz.prog 35 _ Extern.ReflectliteType.typeOf Tryz.func35 (by kernel_rfl) (by kernel_rfl) (by kernel_rfl) (by kernel_rfl)
  have tT := isTypeOf
  have cC := callComparable
  have mR := isMethodComparable
  go_enter Tryz.func16, Tryz.ntmps16
  go_wp2_with (go_at_call 36; go_must (refine (HIS.out).mono ?_); rintro e w1 ⟨rfl, rfl⟩)
  go_ret
  exact ⟨rfl, rfl⟩
set_option maxRecDepth 100000 in
theorem is_fault_other_is (pb : Nat) (a b : Addr) (ca cb : Array Value) (ta tb : TypeId) (w : World) (h1 : w.cell? ⟨pb, 0, none⟩ = some (.iface 194 (.pointer (some a)))) (hne : a ≠ b) (ha : w.heap[a.block]? = some (.cells ca ta (0, 0))) (hb : w.heap[b.block]? = some (.cells cb tb (0, 0))) : Calls Tryz.prog 36 #[.iface 77 (.pointer (some ⟨pb, 0, none⟩)), .iface 194 (.pointer (some b)), .bool true] w fun e w' => e = .returned (.bool false) ∧ w' = w := by
  obtain ⟨i, hi, hcmp⟩ := Option.map_eq_some_iff.1 isComp
  obtain ⟨j, hj, hjs⟩ := Option.map_eq_some_iff.1 isSize
  have nE := noIsE
  have uE := noUnwrapE
  have vE := noUnwrapsE
  have nW := noIsW
  have uW := hasUnwrapW
  have mU := methodUnwrap
  have heq := run_eql_iface_ptr_other (P := Tryz.prog) w Tryz.underlying37 Tryz.underlying194 hi hcmp hj (by rw [hjs]; decide) hne ha hb
  have hty := run_eql_iface_types (P := Tryz.prog) 77 194 (.pointer (some ⟨pb, 0, none⟩)) (.pointer (some b)) Tryz.underlying37 (by decide) w
  go_enter Tryz.func36, Tryz.ntmps36
  go_wp2
  refine wp_loop_rounds 2 ?_
  rw [rounds_succ]
  go_wp2_with (go_at_call 133; go_must (refine (unwrap_ok pb _ _ h1).mono ?_); rintro e w1 ⟨rfl, rfl⟩)
  rw [rounds_succ]
  go_wp2_with (fail)
  go_ret
  exact ⟨rfl, rfl⟩
set_option maxRecDepth 100000 in
/-- errors.Is: a fault that wraps another -/
theorem is_fault_other (pb : Nat) (a b : Addr) (ca cb : Array Value) (ta tb : TypeId) (w : World) (h1 : w.cell? ⟨pb, 0, none⟩ = some (.iface 194 (.pointer (some a)))) (hne : a ≠ b) (ha : w.heap[a.block]? = some (.cells ca ta (0, 0))) (hb : w.heap[b.block]? = some (.cells cb tb (0, 0))) : Calls Tryz.prog 16 #[.iface 77 (.pointer (some ⟨pb, 0, none⟩)), .iface 194 (.pointer (some b))] w fun e w' => e = .returned (.bool false) ∧ w' = w := by
  have HIS := Lib.hid (is_fault_other_is pb a b ca cb ta tb w h1 hne ha hb)
  obtain ⟨i, hi, hcmp⟩ := Option.map_eq_some_iff.1 isComp
  obtain ⟨j, hj, hjs⟩ := Option.map_eq_some_iff.1 isSize
  have h8 := @run_callFunc_extern Tryz.prog 35 _ Extern.ReflectliteType.typeOf Tryz.func35 (by kernel_rfl) (by kernel_rfl) (by kernel_rfl) (by kernel_rfl)
  have tT := isTypeOf
  have cC := callComparable
  have mR := isMethodComparable
  go_enter Tryz.func16, Tryz.ntmps16
  go_wp2_with (go_at_call 36; go_must (refine (HIS.out).mono ?_); rintro e w1 ⟨rfl, rfl⟩)
  go_ret
  exact ⟨rfl, rfl⟩
end Go.Proofs.YteekndchkgdccaaGreatDoor
