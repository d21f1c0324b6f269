/- The code point at a place of a text: of several bytes. -/
import Derived.Deep.MidRow
import Derived.Laws.IdiomStrings
import Derived.Laws.BitsAllLaws
import Derived.Shelf.Spec.TrailingZeros
import Derived.Lib.BitFns
import Derived.Deep.Quiet
import Derived.BigQuiet
import Derived.Lib.TrailingZeros
import Derived.Test.YteekndchkgdccaaGreatDoorPa1
namespace Go.Proofs.YteekndchkgdccaaGreatDoor
open Go.RowKit


set_option maxRecDepth 100000 in
theorem first_four (s : ByteArray) (p c : Nat) (h : p < s.size) (hs : s.size ≤ 1152921504606846976) (hc : (s[p]'h).toNat = c) (hd : c / 8 = 30) (w : World) :
    Calls Tryz.prog 74 #[.string s, .int .i64 (p : Int)] w fun e w' => e = FirstE (tailN ((bl s).drop (p + 1)) 4 (c % 8) 65536 1) ∧ w' = w := by
  have h0 : (0 : Int) ≤ (p : Int) := by omega
  have hi : ¬ (p : Int) ≥ (s.size : Int) := by omega
  have h9 : ¬ (c : Int) < 128 := by omega
  have hc1 : c < 256 := by rw [← hc]; exact UInt8.toNat_lt _
  obtain ⟨a1, a2, a3⟩ := and_cls c hc1
  have b0 : ¬ bits .and .u8 (c : Int) 224 = 192 := fun e => by have := a1.1 e; omega
  have b1 : ¬ bits .and .u8 (c : Int) 240 = 224 := fun e => by have := a2.1 e; omega
  have b2 := a3.2 hd
  obtain ⟨r0, HR0⟩ : ∃ r0 : Nat, Hid (c % 8 = r0) := ⟨_, Lib.hid rfl⟩
  have i1 : (c : Int) % 8 = (r0 : Int) := by rw [← HR0.out]; omega
  have i2 : IntKind.i32.wrap (r0 : Int) = (r0 : Int) := by rw [IntKind.wrap_i32, ← HR0.out]; omega
  have HB0 : Hid (r0 < 64 ^ 1) := by unfold Hid; rw [← HR0.out]; omega
  have HP := Lib.hid h
  have HS := Lib.hid hs
  rw [HR0.out]
  clear a1 a2 a3
  go_enter Tryz.func74, Tryz.ntmps74
  go_wp2_with (fail)
  go_loopw [4, 5, 6, 9, 10, 11] (fun u4 u5 u6 u9 u10 u11 wr => ∃ i r : Nat, 1 ≤ i ∧ i ≤ 4 ∧ u4 = .int .i32 (r : Int) ∧ u5 = .int .i64 4 ∧ u6 = .bool false ∧ u9 = .int .i64 (i : Int) ∧ Hid (r < 64 ^ i) ∧ Hid (tailN ((bl s).drop (p + i)) 4 r 65536 i = tailN ((bl s).drop (p + 1)) 4 r0 65536 1) ∧ Hid (wr = w)) (fun _ _ _ u9 _ _ _ => 4 - (intOf u9).toNat)
  case atStart => exact ⟨1, r0, by decide, by decide, rfl, rfl, rfl, rfl, HB0, Lib.hid rfl, Lib.hid rfl⟩
  case round =>
    obtain ⟨i, r, h1, h2, rfl, rfl, rfl, rfl, HB, HT, HW⟩ := hrel
    have HW2 := HW.out
    subst HW2
    have hr : r < 16777216 := by
      have := HB.out
      have h3 : 64 ^ i ≤ 64 ^ 4 := Nat.pow_le_pow_right (by decide) (by omega)
      omega
    by_cases hlt : i < 4
    · have hlt2 : (i : Int) < 4 := by omega
      obtain ⟨q, HQ⟩ : ∃ q : Nat, Hid (p + i = q) := ⟨_, Lib.hid rfl⟩
      have hq1 : IntKind.i64.wrap ((p : Int) + (i : Int)) = (q : Int) := by have := HQ.out; rw [IntWalk.i64_left, IntWalk.wrap64_in _ ⟨by omega, by omega⟩]; omega
      have hF := follow_ok s q wr
      have hi3 : IntKind.i64.wrap ((i : Int) + 1) = ((i + 1 : Nat) : Int) := by rw [IntWalk.i64_left, IntWalk.wrap64_in _ ⟨by omega, by omega⟩]; omega
      have hend : ∀ x, x = none → FirstE x = .returned (.tuple #[.int .i32 0, .int .i64 0, .bool false]) := fun x hx => by subst hx; rfl
      cases hb : (bl s)[q]? with
      | none =>
        rw [hb] at hF
        dsimp only at hF
        have HE : Hid (tailN ((bl s).drop (p + i)) 4 r 65536 i = none) := by unfold Hid; rw [HQ.out]; exact tail_none hb hlt
        go_wp2_with (go_at_call 86; go_must (refine hF.mono ?_); rintro e w1 ⟨rfl, rfl⟩)
        go_ret3
        rw [← HT.out, HE.out]
        exact ⟨rfl, rfl⟩
      | some b =>
        rw [hb] at hF
        dsimp only at hF
        have HE : Hid (tailN ((bl s).drop (p + i)) 4 r 65536 i = if b / 64 = 2 then tailN ((bl s).drop (q + 1)) 4 (r * 64 + b % 64) 65536 (i + 1) else none) := by unfold Hid; rw [HQ.out]; exact tail_step hb hlt
        by_cases hb2 : b / 64 = 2
        · simp only [if_pos hb2] at hF
          rw [if_pos hb2] at HE
          obtain ⟨y, HY⟩ : ∃ y : Nat, Hid (b % 64 = y) := ⟨_, Lib.hid rfl⟩
          rw [HY.out] at hF HE
          have hy : y < 64 := by rw [← HY.out]; omega
          have hs6 : IntKind.i32.wrap ((r : Int) * 64) = ((r * 64 : Nat) : Int) := by rw [IntKind.wrap_i32]; omega
          have hor : bits .or .i32 ((r * 64 : Nat) : Int) (y : Int) = ((r * 64 + y : Nat) : Int) := by
            have h7 := i32_or6 (x := ((r * 64 : Nat) : Int)) (y := (y : Int)) (by omega) (by omega) (by omega) (by omega) (by omega)
            rw [h7]; omega
          obtain ⟨r1, HR1⟩ : ∃ r1 : Nat, Hid (r * 64 = r1) := ⟨_, Lib.hid rfl⟩
          obtain ⟨r2, HR2⟩ : ∃ r2 : Nat, Hid (r1 + y = r2) := ⟨_, Lib.hid rfl⟩
          rw [HR1.out] at hs6 hor HE
          rw [HR2.out] at hor HE
          go_wp2_with (go_at_call 86; go_must (refine hF.mono ?_); rintro e w1 ⟨rfl, rfl⟩)
          refine ⟨⟨i + 1, r2, by omega, by omega, rfl, rfl, rfl, rfl, ?_, ?_, Lib.hid trivial⟩, by simp [intOf]; omega⟩
          · have hB := HB.out
            have h5 := HR1.out
            have h6 := HR2.out
            unfold Hid
            rw [Nat.pow_succ]
            omega
          · unfold Hid
            rw [← HT.out, HE.out, show p + (i + 1) = q + 1 by have := HQ.out; omega]
        · simp only [if_neg hb2] at hF
          rw [if_neg hb2] at HE
          go_wp2_with (go_at_call 86; go_must (refine hF.mono ?_); rintro e w1 ⟨rfl, rfl⟩)
          go_ret3
          rw [← HT.out, HE.out]
          exact ⟨rfl, rfl⟩
    · obtain rfl : i = 4 := by omega
      have hP := point_ok r wr
      have HE := HT.out
      rw [tail_end] at HE
      by_cases hl : r < 65536
      · have hli : (r : Int) < 65536 := by omega
        rw [if_neg (fun hh => by omega)] at HE
        have HE := Lib.hid HE
        go_wp2_with (go_at_call 87; go_must (refine hP.mono ?_); rintro e w1 ⟨rfl, rfl⟩)
        go_ret3
        rw [← HE.out]
        exact ⟨rfl, rfl⟩
      · have hli : ¬ (r : Int) < 65536 := by omega
        cases hpt : pointN r with
        | true =>
          rw [hpt] at hP
          rw [if_pos ⟨by omega, hpt⟩] at HE
          have HE := Lib.hid HE
          go_wp2_with (go_at_call 87; go_must (refine hP.mono ?_); rintro e w1 ⟨rfl, rfl⟩)
          go_ret3
          rw [← HE.out]
          exact ⟨rfl, rfl⟩
        | false =>
          rw [hpt] at hP
          rw [if_neg (fun hh => by rw [hpt] at hh; cases hh.2)] at HE
          have HE := Lib.hid HE
          go_wp2_with (go_at_call 87; go_must (refine hP.mono ?_); rintro e w1 ⟨rfl, rfl⟩)
          go_ret3
          rw [← HE.out]
          exact ⟨rfl, rfl⟩
end Go.Proofs.YteekndchkgdccaaGreatDoor

/- utf.First. -/
namespace Go.Proofs.YteekndchkgdccaaGreatDoor
open Go.RowKit

set_option maxRecDepth 100000 in
theorem first_bad (s : ByteArray) (p c : Nat) (h : p < s.size) (hc : (s[p]'h).toNat = c) (h8 : 128 ≤ c) (h2 : ¬ c / 32 = 6) (h3 : ¬ c / 16 = 14) (h4 : ¬ c / 8 = 30) (w : World) :
    Calls Tryz.prog 74 #[.string s, .int .i64 (p : Int)] w fun e w' => e = FirstE none ∧ w' = w := by
  have h0 : (0 : Int) ≤ (p : Int) := by omega
  have hi : ¬ (p : Int) ≥ (s.size : Int) := by omega
  have h9 : ¬ (c : Int) < 128 := by omega
  have hc1 : c < 256 := by rw [← hc]; exact UInt8.toNat_lt _
  obtain ⟨a1, a2, a3⟩ := and_cls c hc1
  have b0 : ¬ bits .and .u8 (c : Int) 224 = 192 := fun e => h2 (a1.1 e)
  have b1 : ¬ bits .and .u8 (c : Int) 240 = 224 := fun e => h3 (a2.1 e)
  have b2 : ¬ bits .and .u8 (c : Int) 248 = 240 := fun e => h4 (a3.1 e)
  clear a1 a2 a3 h2 h3 h4
  go_enter Tryz.func74, Tryz.ntmps74
  go_wp2
  go_ret3
  exact ⟨rfl, rfl⟩
theorem utfFirst_ok (s : ByteArray) (p : Nat) (hs : s.size ≤ 1152921504606846976) (hp : p ≤ 1152921504606846976) (w : World) :
    Calls Tryz.prog 74 #[.string s, .int .i64 (p : Int)] w fun e w' => e = FirstE (utfN ((bl s).drop p)) ∧ w' = w := by
  have hl : (bl s).length = s.size := by simp [bl]
  by_cases h : p < s.size
  · obtain ⟨c, hc⟩ : ∃ c, (s[p]'h).toNat = c := ⟨_, rfl⟩
    have hb := byte_at h
    rw [hc] at hb
    obtain ⟨hq, hg⟩ := List.getElem?_eq_some_iff.1 hb
    rw [List.drop_eq_getElem_cons hq, hg]
    by_cases h8 : c < 128
    · rw [show utfN (c :: (bl s).drop (p + 1)) = some (c, 1) by simp only [utfN]; rw [if_pos h8]]
      exact first_one s p c h hc h8 w
    · by_cases h2 : c / 32 = 6
      · rw [show utfN (c :: (bl s).drop (p + 1)) = tailN ((bl s).drop (p + 1)) 2 (c % 32) 128 1 by simp only [utfN]; rw [if_neg h8, if_pos h2]; rfl]
        exact first_two s p c h hs hc h2 w
      · by_cases h3 : c / 16 = 14
        · rw [show utfN (c :: (bl s).drop (p + 1)) = tailN ((bl s).drop (p + 1)) 3 (c % 16) 2048 1 by simp only [utfN]; rw [if_neg h8, if_neg h2, if_pos h3]; rfl]
          exact first_three s p c h hs hc h3 w
        · by_cases h4 : c / 8 = 30
          · rw [show utfN (c :: (bl s).drop (p + 1)) = tailN ((bl s).drop (p + 1)) 4 (c % 8) 65536 1 by simp only [utfN]; rw [if_neg h8, if_neg h2, if_neg h3, if_pos h4]; rfl]
            exact first_four s p c h hs hc h4 w
          · rw [show utfN (c :: (bl s).drop (p + 1)) = none by simp only [utfN]; rw [if_neg h8, if_neg h2, if_neg h3, if_neg h4]]
            exact first_bad s p c h hc (by omega) h2 h3 h4 w
  · rw [List.drop_eq_nil_of_le (by omega)]
    exact first_out s p (by omega) w (by omega)
end Go.Proofs.YteekndchkgdccaaGreatDoor

/- packread.within: the first wrong byte of an encoding. -/
namespace Go.Proofs.YteekndchkgdccaaGreatDoor
open Go.RowKit

def tailL : Nat → List Nat
  | 0 => []
  | 1 => [128]
  | _ => [128, 128]
def goodJ (l : List Nat) (k : Nat) : Nat → Bool
  | 0 => false
  | j + 1 => goodJ l k j || (utfK (l ++ tailL j) == some k)
theorem goodJ_all (l : List Nat) (k : Nat) : goodJ l k 3 = goodN l k := by simp [goodJ, goodN, tailL]
theorem bl_app (a b : ByteArray) : bl (a ++ b) = bl a ++ bl b := by simp [bl]
theorem bl_take (s : ByteArray) (n : Nat) : bl (s.extract 0 n) = (bl s).take n := by simp [bl]

/-- what 'first' and 'within' answer -/
def WithinE (x : Option Nat) : Ending := match x with
  | some i => .returned (.tuple #[.int .i64 (i : Int), .bool true])
  | none => .returned (.tuple #[.int .i64 0, .bool false])
theorem size_tail (s t : ByteArray) (n : Nat) (hs : s.size ≤ 1152921504606846970) (ht : t.size ≤ 3) : (s.extract 0 n ++ t).size ≤ 1152921504606846976 := by
  rw [ByteArray.size_append, ByteArray.size_extract]; omega
end Go.Proofs.YteekndchkgdccaaGreatDoor

/- packread.first: the tries by which it finds of how many bytes an encoding is. Plain Lean. -/
namespace Go.Proofs.YteekndchkgdccaaGreatDoor

def cL : Nat → List Nat
  | 0 => []
  | 1 => [128]
  | 2 => [144]
  | _ => [160]
def tL : Nat → List Nat
  | 0 => []
  | 1 => [128]
  | 2 => [128, 128]
  | _ => [128, 128, 128]
theorem lead_try (b : Nat) (hb : b < 256) (h : ∀ a j, a < 4 → j < 4 → utfK (b :: (cL j ++ tL a)) = none) : leadK b = none := by
  have key := (show ∀ b : Fin 256, (leadK b.val).isSome = true → ∃ a : Fin 4, ∃ j : Fin 4, (utfK (b.val :: (cL j.val ++ tL a.val))).isSome = true by decide +kernel) ⟨b, hb⟩
  cases hk : leadK b with
  | none => rfl
  | some k =>
    obtain ⟨a, j, h1⟩ := key (by rw [hk]; rfl)
    rw [h a.val j.val a.isLt j.isLt] at h1
    cases h1
end Go.Proofs.YteekndchkgdccaaGreatDoor

/- No document begins another; what is refused at a place is refused at the end of each beginning that ends ahead of it. Plain Lean. -/
namespace Go.Proofs.YteekndchkgdccaaGreatDoor

/-! ### encodings -/
theorem contN_app : ∀ (l : List Nat) (n r r' : Nat) (l2 : List Nat), contN l n r = some r' → contN (l ++ l2) n r = some r'
  | l, 0, r, r', l2, h => by cases l <;> cases l2 <;> simpa [contN] using h
  | [], _ + 1, _, _, _, h => by simp [contN] at h
  | b :: l, n + 1, r, r', l2, h => by
    simp only [contN, List.cons_append] at h ⊢
    split at h
    · rw [if_pos (by assumption)]; exact contN_app l n _ _ l2 h
    · simp at h
theorem contN_len : ∀ (l : List Nat) (n r r' : Nat), contN l n r = some r' → n ≤ l.length
  | _, 0, _, _, _ => Nat.zero_le _
  | [], _ + 1, _, _, h => by simp [contN] at h
  | b :: l, n + 1, r, r', h => by
    simp only [contN] at h
    split at h
    · have := contN_len l n _ _ h; simp; omega
    · simp at h
theorem utfN_app {l : List Nat} {x : Nat × Nat} (l2 : List Nat) (h : utfN l = some x) : utfN (l ++ l2) = some x := by
  match l, h with
  | [], h => simp [utfN] at h
  | c :: l, h =>
    simp only [utfN, List.cons_append] at h ⊢
    split
    · rename_i h1; rw [if_pos h1] at h; exact h
    · rename_i h1
      rw [if_neg h1] at h
      split
      · rename_i h2
        rw [if_pos h2] at h
        obtain ⟨r, hr, h⟩ := Option.bind_eq_some_iff.1 h
        rw [contN_app _ _ _ _ l2 hr]
        exact h
      · rename_i h2
        rw [if_neg h2] at h
        split
        · rename_i h3
          rw [if_pos h3] at h
          obtain ⟨r, hr, h⟩ := Option.bind_eq_some_iff.1 h
          rw [contN_app _ _ _ _ l2 hr]
          exact h
        · rename_i h3
          rw [if_neg h3] at h
          split
          · rename_i h4
            rw [if_pos h4] at h
            obtain ⟨r, hr, h⟩ := Option.bind_eq_some_iff.1 h
            rw [contN_app _ _ _ _ l2 hr]
            exact h
          · rename_i h4
            rw [if_neg h4] at h
            exact h
theorem utfK_app {l : List Nat} {k : Nat} (l2 : List Nat) (h : utfK l = some k) : utfK (l ++ l2) = some k := by
  obtain ⟨x, hx, rfl⟩ := Option.map_eq_some_iff.1 h
  rw [utfK, utfN_app l2 hx]; rfl
/-- what stands where a code point stands -/
theorem utfK_cases {l : List Nat} {k : Nat} (h : utfK l = some k) : ∃ c r, l = c :: r ∧
    ((k = 1 ∧ c < 0x80) ∨
     (k = 2 ∧ c / 32 = 6 ∧ ∃ b1 r1, r = b1 :: r1 ∧ b1 / 64 = 2 ∧ 0x80 ≤ c % 32 * 64 + b1 % 64) ∨
     (k = 3 ∧ c / 16 = 14 ∧ ∃ b1 b2 r1, r = b1 :: b2 :: r1 ∧ b1 / 64 = 2 ∧ b2 / 64 = 2 ∧ 0x800 ≤ (c % 16 * 64 + b1 % 64) * 64 + b2 % 64 ∧ pointN ((c % 16 * 64 + b1 % 64) * 64 + b2 % 64) = true) ∨
     (k = 4 ∧ c / 8 = 30 ∧ ∃ b1 b2 b3 r1, r = b1 :: b2 :: b3 :: r1 ∧ b1 / 64 = 2 ∧ b2 / 64 = 2 ∧ b3 / 64 = 2 ∧ 0x10000 ≤ ((c % 8 * 64 + b1 % 64) * 64 + b2 % 64) * 64 + b3 % 64 ∧ pointN (((c % 8 * 64 + b1 % 64) * 64 + b2 % 64) * 64 + b3 % 64) = true)) := by
  obtain ⟨x, hx, rfl⟩ := Option.map_eq_some_iff.1 h
  clear h
  match l, hx with
  | [], h => simp [utfN] at h
  | c :: l, hx =>
    refine ⟨c, l, rfl, ?_⟩
    simp only [utfN] at hx
    split at hx
    · simp at hx; subst hx; exact .inl ⟨rfl, by assumption⟩
    split at hx
    · obtain ⟨r, hr, hy⟩ := Option.bind_eq_some_iff.1 hx
      clear hx
      match l, hr with
      | [], hr => simp [contN] at hr
      | b1 :: l, hr =>
        simp only [contN] at hr
        split at hr
        · split at hy
          · simp only [Option.some.injEq] at hr hy
            subst hr hy
            exact .inr (.inl ⟨rfl, by assumption, b1, l, rfl, by assumption, by omega⟩)
          · simp at hy
        · simp at hr
    split at hx
    · obtain ⟨r, hr, hy⟩ := Option.bind_eq_some_iff.1 hx
      clear hx
      match l, hr with
      | [], hr => simp [contN] at hr
      | [b1], hr => simp [contN] at hr
      | b1 :: b2 :: l, hr =>
        simp only [contN] at hr
        split at hr
        · split at hr
          · split at hy
            · rename_i hp
              simp only [Option.some.injEq] at hr hy
              subst hr hy
              exact .inr (.inr (.inl ⟨rfl, by assumption, b1, b2, l, rfl, by assumption, by assumption, hp.1, hp.2⟩))
            · simp at hy
          · simp at hr
        · simp at hr
    split at hx
    · obtain ⟨r, hr, hy⟩ := Option.bind_eq_some_iff.1 hx
      clear hx
      match l, hr with
      | [], hr => simp [contN] at hr
      | [b1], hr => simp [contN] at hr
      | [b1, b2], hr => simp [contN] at hr
      | b1 :: b2 :: b3 :: l, hr =>
        simp only [contN] at hr
        split at hr
        · split at hr
          · split at hr
            · split at hy
              · rename_i hp
                simp only [Option.some.injEq] at hr hy
                subst hr hy
                exact .inr (.inr (.inr ⟨rfl, by assumption, b1, b2, b3, l, rfl, by assumption, by assumption, by assumption, hp.1, hp.2⟩))
              · simp at hy
            · simp at hr
          · simp at hr
        · simp at hr
    · simp at hx
theorem utfK_pos {l : List Nat} {k : Nat} (h : utfK l = some k) : 1 ≤ k ∧ k ≤ l.length ∧ k ≤ 4 := by
  obtain ⟨c, r, e, g⟩ := utfK_cases h
  clear h
  subst e
  rcases g with ⟨rfl, _⟩ | ⟨rfl, _, b1, r1, rfl, _⟩ | ⟨rfl, _, b1, b2, r1, rfl, _⟩ | ⟨rfl, _, b1, b2, b3, r1, rfl, _⟩ <;> simp
theorem pointN_iff (r : Nat) : pointN r = true ↔ r ≤ 0x10ffff ∧ (r < 0xd800 ∨ 0xdfff < r) := by simp [pointN]
theorem utfK_lead {c : Nat} {l : List Nat} {k : Nat} (h : utfK (c :: l) = some k) : leadK c = some k := by
  obtain ⟨c', r, e, g⟩ := utfK_cases h
  clear h
  simp only [List.cons.injEq] at e
  obtain ⟨rfl, rfl⟩ := e
  unfold leadK
  rcases g with ⟨rfl, h⟩ | ⟨rfl, h, b1, r1, rfl, h1, h2⟩ | ⟨rfl, h, b1, b2, r1, rfl, h1, h2, h3, h4⟩ | ⟨rfl, h, b1, b2, b3, r1, rfl, h1, h2, h3, h4, h5⟩
  · rw [if_pos h]
  · rw [if_neg (by omega), if_pos (by omega)]
  · rw [if_neg (by omega), if_neg (by omega), if_pos (by omega)]
  · rw [pointN_iff] at h5
    rw [if_neg (by omega), if_neg (by omega), if_neg (by omega), if_pos (by omega)]
theorem utfK_mk2 {c b1 : Nat} {r : List Nat} (h : c / 32 = 6) (h1 : b1 / 64 = 2) (h2 : 0x80 ≤ c % 32 * 64 + b1 % 64) : utfK (c :: b1 :: r) = some 2 := by
  have : c % 32 * 64 + b1 % 64 < 0xd800 := by omega
  simp only [utfK, utfN]
  rw [if_neg (by omega), if_pos h]
  simp [contN, h1, h2, pointN_iff]
  omega
theorem utfK_mk3 {c b1 b2 : Nat} {r : List Nat} (h : c / 16 = 14) (h1 : b1 / 64 = 2) (h2 : b2 / 64 = 2) (h3 : 0x800 ≤ (c % 16 * 64 + b1 % 64) * 64 + b2 % 64) (h4 : pointN ((c % 16 * 64 + b1 % 64) * 64 + b2 % 64) = true) : utfK (c :: b1 :: b2 :: r) = some 3 := by
  simp only [utfK, utfN]
  rw [if_neg (by omega), if_neg (by omega), if_pos h]
  simp [contN, h1, h2, h3, h4]
theorem utfK_mk4 {c b1 b2 b3 : Nat} {r : List Nat} (h : c / 8 = 30) (h1 : b1 / 64 = 2) (h2 : b2 / 64 = 2) (h3 : b3 / 64 = 2) (h4 : 0x10000 ≤ ((c % 8 * 64 + b1 % 64) * 64 + b2 % 64) * 64 + b3 % 64) (h5 : pointN (((c % 8 * 64 + b1 % 64) * 64 + b2 % 64) * 64 + b3 % 64) = true) : utfK (c :: b1 :: b2 :: b3 :: r) = some 4 := by
  simp only [utfK, utfN]
  rw [if_neg (by omega), if_neg (by omega), if_neg (by omega), if_pos h]
  simp [contN, h1, h2, h3, h4, h5]
theorem good_of {l : List Nat} {k : Nat} (h : utfK l = some k) {i : Nat} (h1 : 1 ≤ i) (h2 : i < k) : goodN (l.take (i + 1)) k = true := by
  obtain ⟨c, r, e, g⟩ := utfK_cases h
  clear h
  subst e
  unfold goodN
  simp only [Bool.or_eq_true, beq_iff_eq]
  rcases g with ⟨rfl, _⟩ | ⟨rfl, h, b1, r1, rfl, g1, g2⟩ | ⟨rfl, h, b1, b2, r1, rfl, g1, g2, g3, g4⟩ | ⟨rfl, h, b1, b2, b3, r1, rfl, g1, g2, g3, g4, g5⟩
  · omega
  · obtain rfl : i = 1 := by omega
    exact .inl (.inl (utfK_mk2 h g1 g2))
  · rw [pointN_iff] at g4
    obtain rfl | rfl : i = 1 ∨ i = 2 := by omega
    · exact .inl (.inr (utfK_mk3 h g1 (by decide) (by omega) ((pointN_iff _).2 (by omega))))
    · exact .inl (.inl (utfK_mk3 h g1 g2 g3 ((pointN_iff _).2 g4)))
  · rw [pointN_iff] at g5
    obtain rfl | rfl | rfl : i = 1 ∨ i = 2 ∨ i = 3 := by omega
    · exact .inr (utfK_mk4 h g1 (by decide) (by decide) (by omega) ((pointN_iff _).2 (by omega)))
    · exact .inl (.inr (utfK_mk4 h g1 g2 (by decide) (by omega) ((pointN_iff _).2 (by omega))))
    · exact .inl (.inl (utfK_mk4 h g1 g2 g3 g4 ((pointN_iff _).2 g5)))
theorem within_app : ∀ (m i : Nat) (l l2 : List Nat) (k p : Nat), withinN l k m i = some p → withinN (l ++ l2) k m i = some p ∧ i ≤ p ∧ p < k ∧ p < l.length ∧ goodN (l.take (p + 1)) k = false
  | 0, _, _, _, _, _, h => by simp [withinN] at h
  | m + 1, i, l, l2, k, p, h => by
    simp only [withinN] at h ⊢
    split at h
    · rename_i hc
      have ht : (l ++ l2).take (i + 1) = l.take (i + 1) := List.take_append_of_le_length (by omega)
      rw [if_pos ⟨hc.1, by rw [List.length_append]; omega⟩, ht]
      split at h
      · rename_i hg
        rw [if_pos hg]
        obtain ⟨h1, h2, h3, h4, h5⟩ := within_app m (i + 1) l l2 k p h
        exact ⟨h1, by omega, h3, h4, h5⟩
      · rename_i hg
        rw [if_neg hg]
        simp only [Option.some.injEq] at h
        subst h
        exact ⟨rfl, Nat.le_refl _, hc.1, hc.2, by simpa using hg⟩
    · simp at h
theorem first_app {l : List Nat} {n p : Nat} (l2 : List Nat) (hl : l ≠ []) (hn : (l ++ l2).length ≤ n) (h : firstN l n = some p) : firstN (l ++ l2) n = some p ∧ utfK (l ++ l2) = none ∧ p < l.length := by
  match l, hl with
  | b :: l, _ =>
    have key : ∀ k, utfK (b :: l ++ l2) = some k → leadK b = some k ∧ k ≤ n := fun k hk => ⟨utfK_lead hk, Nat.le_trans (utfK_pos hk).2.1 hn⟩
    have key2 : utfK (b :: l ++ l2) ≠ none → ∃ k, utfK (b :: l ++ l2) = some k := fun h => Option.ne_none_iff_exists'.1 h
    simp only [firstN, List.cons_append] at h ⊢
    cases hk : leadK b with
    | none =>
      rw [hk] at h
      simp only [Option.some.injEq] at h
      subst h
      refine ⟨rfl, Decidable.byContradiction fun hc => ?_, by simp⟩
      obtain ⟨k, hk'⟩ := key2 hc
      rw [hk] at key
      exact absurd (key k hk').1 (by simp)
    | some k =>
      rw [hk] at h
      simp only at h ⊢
      split at h
      · rename_i hlt
        rw [if_pos hlt]
        simp only [Option.some.injEq] at h
        subst h
        refine ⟨rfl, Decidable.byContradiction fun hc => ?_, by simp⟩
        obtain ⟨k', hk'⟩ := key2 hc
        obtain ⟨h1, h2⟩ := key k' hk'
        rw [hk] at h1
        simp only [Option.some.injEq] at h1
        omega
      · rename_i hlt
        rw [if_neg hlt]
        obtain ⟨h1, h2, h3, h4, h5⟩ := within_app 4 1 (b :: l) l2 k p h
        refine ⟨h1, Decidable.byContradiction fun hc => ?_, h4⟩
        obtain ⟨k', hk'⟩ := key2 hc
        obtain ⟨g1, g2⟩ := key k' hk'
        rw [hk] at g1
        simp only [Option.some.injEq] at g1
        subst g1
        have := good_of hk' h2 h3
        rw [List.take_append_of_le_length (by omega), h5] at this
        cases this
theorem scan_app : ∀ (m : Nat) (l : List Nat) (n : Nat) (l2 : List Nat) (p m' : Nat), l.length ≤ m → (l ++ l2).length ≤ m' → (l ++ l2).length ≤ n → scanN m l n = some p → scanN m' (l ++ l2) n = some p ∧ p < l.length
  | 0, _, _, _, _, _, _, _, _, h => by simp [scanN] at h
  | m + 1, [], _, _, _, _, _, _, _, h => by simp [scanN] at h
  | m + 1, b :: l, n, l2, p, 0, _, h2, _, _ => by simp at h2
  | m + 1, b :: l, n, l2, p, m' + 1, h1, h2, h3, h => by
    cases hk : utfK (b :: l) with
    | some k =>
      obtain ⟨k1, k2, k3⟩ := utfK_pos hk
      have hk2 : utfK (b :: (l ++ l2)) = some k := utfK_app l2 hk
      simp only [scanN, hk] at h
      obtain ⟨p0, hp0, rfl⟩ := Option.map_eq_some_iff.1 h
      have hd : (b :: l ++ l2).drop k = (b :: l).drop k ++ l2 := List.drop_append_of_le_length k2
      have hlen : ((b :: l).drop k ++ l2).length = (b :: l ++ l2).length - k := by rw [← hd, List.length_drop]
      obtain ⟨g1, g2⟩ := scan_app m ((b :: l).drop k) (n - k) l2 p0 m' (by rw [List.length_drop]; omega) (by omega) (by omega) hp0
      simp only [List.cons_append, scanN, hk2]
      rw [List.length_drop] at g2
      refine ⟨?_, by omega⟩
      rw [show (b :: (l ++ l2)).drop k = (b :: l).drop k ++ l2 from hd, g1]
      rfl
    | none =>
      simp only [scanN, hk] at h
      obtain ⟨g1, g2, g3⟩ := first_app l2 (by simp) h3 h
      refine ⟨?_, g3⟩
      simp only [List.cons_append] at g1 g2
      simp only [List.cons_append, scanN, g2, g1]
theorem scan_none {m m' : Nat} {l : List Nat} {n : Nat} (j : Nat) (h1 : l.length ≤ m) (h2 : l.length ≤ n) (h3 : (l.take j).length ≤ m') (h : ∀ p, scanN m l n = some p → j ≤ p) : scanN m' (l.take j) n = none := by
  refine Decidable.byContradiction fun hc => ?_
  obtain ⟨q, hq⟩ := Option.ne_none_iff_exists'.1 hc
  have e : l.take j ++ l.drop j = l := List.take_append_drop j l
  obtain ⟨g1, g2⟩ := scan_app m' (l.take j) n (l.drop j) q m h3 (by rw [e]; exact h1) (by rw [e]; exact h2) hq
  rw [e] at g1
  have := h q g1
  rw [List.length_take] at g2
  omega

/-! ### beginnings -/
/-- r' is what is read of the first i bytes, r what is read of all -/
def Cl {α : Type} (i : Nat) (r' r : R α) : Prop := match r with
  | .ok v p => (p ≤ i → r' = .ok v p) ∧ (i < p → r' = .bad 3 i)
  | .bad _ p => i ≤ p → r' = .bad 3 i
def OkGe {α : Type} (p : Nat) (r : R α) : Prop := match r with
  | .ok _ q => p ≤ q
  | .bad _ _ => True
theorem OkGe.mono {α : Type} {p q : Nat} {r : R α} (h : OkGe q r) (hp : p ≤ q) : OkGe p r := by
  cases r with
  | ok v z => exact Nat.le_trans hp h
  | bad c z => trivial
theorem OkGe.bind {α β : Type} {p : Nat} {m : R α} {f : α → Nat → R β} (h : OkGe p m) (hf : ∀ v q, p ≤ q → OkGe q (f v q)) : OkGe p (m.bind f) := by
  cases m with
  | ok v q => exact (hf v q h).mono h
  | bad c q => trivial
theorem Cl.bind {α β : Type} {i : Nat} {m m' : R α} {f f' : α → Nat → R β} (h : Cl i m' m) (hf : ∀ v q, m = .ok v q → q ≤ i → Cl i (f' v q) (f v q)) (hg : ∀ v q, m = .ok v q → OkGe q (f v q)) : Cl i (m'.bind f') (m.bind f) := by
  cases m with
  | ok v q =>
    by_cases hq : q ≤ i
    · rw [h.1 hq]
      exact hf v q rfl hq
    · rw [h.2 (by omega)]
      have := hg v q rfl
      show Cl i (.bad 3 i) (f v q)
      cases hr : f v q with
      | ok w z =>
        rw [hr] at this
        exact ⟨fun hz => absurd (Nat.le_trans this hz) hq, fun _ => rfl⟩
      | bad c z => exact fun _ => rfl
  | bad c q => exact fun hq => by rw [show m' = .bad 3 i from h hq]; rfl
theorem Cl.ok {α : Type} {i p : Nat} (v : α) (h : p ≤ i) : Cl i (.ok v p) (.ok v p) := ⟨fun _ => rfl, fun h' => absurd h (by omega)⟩
theorem Cl.bad {α : Type} {i p c : Nat} (r' : R α) (h : p < i) : Cl i r' (.bad c p) := fun h' => absurd h (by omega)
end Go.Proofs.YteekndchkgdccaaGreatDoor

/- packread.first: where no encoding stands, the first wrong byte. -/
namespace Go.Proofs.YteekndchkgdccaaGreatDoor
open Go.RowKit

/-- all tries ahead of the one at (a, j) failed -/
def Tried (b a j : Nat) : Prop := ∀ a' j', a' < 4 → j' < 4 → (a' < a ∨ a' = a ∧ j' < j) → utfK (b :: (cL j' ++ tL a')) = none
theorem Tried.next {b a j : Nat} (h : Tried b a j) (hx : utfK (b :: (cL j ++ tL a)) = none) : Tried b a (j + 1) := fun a' j' h1 h2 h3 => by
  rcases h3 with h3 | ⟨rfl, h3⟩
  · exact h a' j' h1 h2 (.inl h3)
  · rcases Nat.lt_or_ge j' j with h4 | h4
    · exact h a' j' h1 h2 (.inr ⟨rfl, h4⟩)
    · obtain rfl : j' = j := by omega
      exact hx
theorem Tried.row {b a : Nat} (h : Tried b a 4) : Tried b (a + 1) 0 := fun a' j' h1 h2 h3 => by
  rcases h3 with h3 | ⟨rfl, h3⟩
  · rcases Nat.lt_or_ge a' a with h4 | h4
    · exact h a' j' h1 h2 (.inl h4)
    · obtain rfl : a' = a := by omega
      exact h a' j' h1 h2 (.inr ⟨rfl, h2⟩)
  · omega
theorem bl_head {s : ByteArray} (h : 0 < s.size) : ∃ r, bl s = (s[0]'h).toNat :: r ∧ bl (s.extract 0 1) = [(s[0]'h).toNat] := by
  have h1 := byte_at h
  obtain ⟨hq, hg⟩ := List.getElem?_eq_some_iff.1 h1
  have e : bl s = (s[0]'h).toNat :: (bl s).drop 1 := by
    have := List.drop_eq_getElem_cons hq
    rw [List.drop_zero, hg] at this
    exact this
  refine ⟨(bl s).drop 1, e, ?_⟩
  rw [bl_take, e]
  rfl
theorem first_some {s : ByteArray} {b k n : Nat} {r : List Nat} (e : bl s = b :: r) (h : leadK b = some k) : firstN (bl s) n = if n < k then some 0 else withinN (bl s) k 4 1 := by
  rw [e]; simp only [firstN, h]
theorem first_none {s : ByteArray} {b n : Nat} {r : List Nat} (e : bl s = b :: r) (h : leadK b = none) : firstN (bl s) n = some 0 := by
  rw [e]; simp only [firstN, h]
theorem size_app3 (s c t : ByteArray) (hs : s.size ≤ 1152921504606846960) (h1 : c.size ≤ 3) (h2 : t.size ≤ 3) : (s.extract 0 1 ++ c ++ t).size ≤ 1152921504606846976 := by
  rw [ByteArray.size_append, ByteArray.size_append, ByteArray.size_extract]; omega
end Go.Proofs.YteekndchkgdccaaGreatDoor

/- packread's family of texts. UNDER WAY. -/
namespace Go.Proofs.YteekndchkgdccaaGreatDoor
open Go.RowKit

/-- a scan from a place on: what is left of the fuel does not matter -/
def ScanAt (l : List Nat) (n at_ : Nat) : Option Nat := (scanN (l.length - at_) (l.drop at_) (n - at_)).map (· + at_)
theorem scan_fuel {m m' : Nat} {l : List Nat} {n : Nat} (h1 : l.length ≤ m) (h2 : l.length ≤ m') (h3 : l.length ≤ n) : scanN m l n = scanN m' l n := by
  cases h : scanN m l n with
  | some p =>
    have := (scan_app m l n [] p m' h1 (by simpa using h2) (by simpa using h3) h).1
    rw [List.append_nil] at this
    exact this.symm
  | none =>
    cases h' : scanN m' l n with
    | none => rfl
    | some p =>
      have := (scan_app m' l n [] p m h2 (by simpa using h1) (by simpa using h3) h').1
      rw [List.append_nil, h] at this
      cases this
theorem scan_at_end {l : List Nat} {n p : Nat} (h : l.length ≤ p) : ScanAt l n p = none := by
  unfold ScanAt
  rw [show l.length - p = 0 by omega]
  rfl
theorem scan_at_step {l : List Nat} {n p k : Nat} (h : p < l.length) (hn : l.length ≤ n) (hk : utfK (l.drop p) = some k) : ScanAt l n p = ScanAt l n (p + k) := by
  obtain ⟨k1, k2, _⟩ := utfK_pos hk
  rw [List.length_drop] at k2
  unfold ScanAt
  rw [show l.length - p = (l.length - p - 1) + 1 by omega]
  have hd : l.drop p ≠ [] := fun e => by
    have := congrArg List.length e
    rw [List.length_drop] at this
    simp at this
    omega
  obtain ⟨b, r, hbr⟩ := List.exists_cons_of_ne_nil hd
  have e : scanN (l.length - p - 1 + 1) (l.drop p) (n - p) = (scanN (l.length - p - 1) ((l.drop p).drop k) (n - p - k)).map (· + k) := by
    rw [hbr] at hk ⊢
    simp only [scanN, hk]
  rw [e, List.drop_drop, Option.map_map, scan_fuel (m' := l.length - (p + k)) (by rw [List.length_drop]; omega) (by rw [List.length_drop]; omega) (by rw [List.length_drop]; omega), show n - p - k = n - (p + k) by omega]
  congr 1
  funext x
  simp only [Function.comp]
  omega
theorem scan_at_bad {l : List Nat} {n p : Nat} (h : p < l.length) (hk : utfK (l.drop p) = none) : ScanAt l n p = (firstN (l.drop p) (n - p)).map (· + p) := by
  unfold ScanAt
  rw [show l.length - p = (l.length - p - 1) + 1 by omega]
  have hd : l.drop p ≠ [] := fun e => by
    have := congrArg List.length e
    rw [List.length_drop] at this
    simp at this
    omega
  obtain ⟨b, r, hbr⟩ := List.exists_cons_of_ne_nil hd
  rw [hbr] at hk ⊢
  simp only [scanN, hk]
end Go.Proofs.YteekndchkgdccaaGreatDoor

/- No document begins another: items. Plain Lean. -/
namespace Go.Proofs.YteekndchkgdccaaGreatDoor
variable (D : Words)

theorem bl_len (s : ByteArray) : (bl s).length = s.size := by simp [bl]
theorem bl_extract (s : ByteArray) (a b : Nat) : bl (s.extract a b) = ((bl s).take b).drop a := by
  simp [bl, ByteArray.data_extract, Array.toList_extract, List.map_take, List.map_drop]
  rw [List.take_drop]
  rcases Nat.le_total a b with h | h
  · rw [Nat.add_sub_cancel' h]
  · rw [List.drop_eq_nil_of_le (by rw [List.length_take]; omega), List.drop_eq_nil_of_le (by rw [List.length_take]; omega)]
theorem ex_ex (s : ByteArray) {i a b : Nat} (hb : b ≤ i) : (s.extract 0 i).extract a b = s.extract a b := by
  rw [ByteArray.extract_extract]
  congr 1 <;> omega
theorem ex_size (s : ByteArray) {i : Nat} (h : i ≤ s.size) : (s.extract 0 i).size = i := by
  rw [ByteArray.size_extract]; omega

theorem take_cl {s : ByteArray} {i p n : Nat} (hi : i ≤ s.size) (hp : p ≤ i) : Cl i (takeR (s.extract 0 i) p n) (takeR s p n) := by
  unfold takeR
  rw [ex_size s hi]
  by_cases h : s.size - p < n
  · rw [if_pos h]
    exact fun h' => by rw [if_pos (by omega)]
  · rw [if_neg h]
    refine ⟨fun h' => ?_, fun h' => ?_⟩
    · rw [if_neg (by omega), ex_ex s h']
    · rw [if_pos (by omega)]
theorem take_ge {s : ByteArray} {p n : Nat} : OkGe (p + n) (takeR s p n) := by
  unfold takeR
  split
  · trivial
  · exact Nat.le_refl _
theorem take_at {s t : ByteArray} {p n q : Nat} (h : takeR s p n = .ok t q) : p + n = q := by
  unfold takeR at h
  split at h
  · cases h
  · simp only [R.ok.injEq] at h; exact h.2
theorem text_cl {s : ByteArray} {i p n : Nat} (hi : i ≤ s.size) (hp : p ≤ i) : Cl i (textR (s.extract 0 i) p n) (textR s p n) := by
  have hw : bl ((s.extract 0 i).extract p (p + min n (i - p))) = (bl (s.extract p (p + min n (s.size - p)))).take (min n (i - p)) := by
    rw [ex_ex s (by omega), bl_extract, bl_extract, List.take_drop, List.take_take]
    congr 2
    omega
  have hl : (bl (s.extract p (p + min n (s.size - p)))).length ≤ min n (s.size - p) := by
    rw [bl_len, ByteArray.size_extract]; omega
  have none_ : (∀ q, scanN (s.size - p) (bl (s.extract p (p + min n (s.size - p)))) n = some q → min n (i - p) ≤ q) → textR (s.extract 0 i) p n = takeR (s.extract 0 i) p n := fun h => by
    unfold textR
    rw [ex_size s hi, hw, scan_none (m := s.size - p) (min n (i - p)) (by omega) (by omega) (by rw [List.length_take]; omega) h]
  cases hs : scanN (s.size - p) (bl (s.extract p (p + min n (s.size - p)))) n with
  | some q =>
    have e : textR s p n = .bad 3 (p + q) := by unfold textR; rw [hs]
    rw [e]
    intro h'
    have hq : q < n := by
      have := (scan_app _ _ n [] q (s.size - p) (by omega) (by rw [List.append_nil]; omega) (by rw [List.append_nil]; omega) hs).2
      omega
    rw [none_ (fun q' hq' => by rw [hs] at hq'; simp only [Option.some.injEq] at hq'; omega)]
    unfold takeR
    rw [ex_size s hi, if_pos (by omega)]
  | none =>
    have e : textR s p n = takeR s p n := by unfold textR; rw [hs]
    rw [e, none_ (fun q' hq' => by rw [hs] at hq'; cases hq')]
    exact take_cl hi hp
theorem text_ge {s : ByteArray} {p n : Nat} : OkGe p (textR s p n) := by
  unfold textR
  split
  · trivial
  · exact take_ge.mono (by omega)

/-- goes on, if it goes -/
def Goes (it : Nat → R V) : Prop := ∀ p, OkGe (p + 1) (it p)
def Alike (i : Nat) (it' it : Nat → R V) : Prop := ∀ p, p ≤ i → Cl i (it' p) (it p)

theorem rounds_ge {it : Nat → R V} (hg : Goes it) : ∀ n p acc, OkGe p (roundsN it n p acc)
  | 0, _, _ => Nat.le_refl _
  | n + 1, p, _ => ((hg p).mono (by omega)).bind fun _ q _ => rounds_ge hg n q _
theorem rounds_cl {i : Nat} {it' it : Nat → R V} (hg : Goes it) (ha : Alike i it' it) : ∀ n p acc, p ≤ i → Cl i (roundsN it' n p acc) (roundsN it n p acc)
  | 0, _, _, hp => Cl.ok _ hp
  | n + 1, p, _, hp => (ha p hp).bind (fun _ q _ hq => rounds_cl hg ha n q _ hq) (fun _ q _ => rounds_ge hg n q _)
theorem pairs_ge {it : Nat → R V} (hg : Goes it) : ∀ n p acc, OkGe p (pairsN D it n p acc)
  | 0, _, _ => Nat.le_refl _
  | n + 1, p, _ => ((hg p).mono (by omega)).bind fun _ q _ => by
    split
    · trivial
    · exact ((hg q).mono (by omega)).bind fun _ z _ => pairs_ge hg n z _
theorem pairs_cl {i : Nat} {it' it : Nat → R V} (hg : Goes it) (ha : Alike i it' it) : ∀ n p acc, p ≤ i → Cl i (pairsN D it' n p acc) (pairsN D it n p acc)
  | 0, _, _, hp => Cl.ok _ hp
  | n + 1, p, _, hp => (ha p hp).bind
      (fun v q hv hq => by
        have hlt : p < q := by
          have := hg p
          rw [hv] at this
          exact this
        split
        · exact Cl.bad _ (by omega)
        · exact (ha q hq).bind (fun _ z _ hz => pairs_cl hg ha n z _ hz) (fun _ z _ => pairs_ge D hg n z _))
      (fun _ q _ => by
        split
        · trivial
        · exact ((hg q).mono (by omega)).bind fun _ z _ => pairs_ge D hg n z _)

/-- what may be read within -/
def InGoes : Option (Nat → R V) → Prop
  | none => True
  | some it => Goes it
def InAlike (i : Nat) : Option (Nat → R V) → Option (Nat → R V) → Prop
  | none, none => True
  | some it', some it => Alike i it' it
  | _, _ => False
theorem fam_ge (s : ByteArray) {inner : Option (Nat → R V)} (hg : InGoes inner) (from_ : Nat) (f : Fam) (n p : Nat) : OkGe p (famR D s inner from_ f n p) := by
  cases f
  case word => exact Nat.le_refl _
  case whole => exact Nat.le_refl _
  case below => exact Nat.le_refl _
  case single => exact Nat.le_refl _
  case double => exact Nat.le_refl _
  case signed => exact (take_ge.mono (by omega)).bind fun _ _ _ => Nat.le_refl _
  case bytes => exact (take_ge.mono (by omega)).bind fun _ _ _ => Nat.le_refl _
  case ext => exact (take_ge.mono (by omega)).bind fun _ q _ => (take_ge.mono (by omega)).bind fun _ _ _ => Nat.le_refl _
  case text => exact text_ge.bind fun _ _ _ => Nat.le_refl _
  case list =>
    cases inner with
    | none => trivial
    | some it => exact (rounds_ge hg n p []).bind fun _ _ _ => Nat.le_refl _
  case pairs =>
    cases inner with
    | none => trivial
    | some it => exact (pairs_ge D hg n p []).bind fun _ _ _ => Nat.le_refl _
theorem fam_cl {s : ByteArray} {i : Nat} (hi : i ≤ s.size) {inner' inner : Option (Nat → R V)} (hg : InGoes inner) (ha : InAlike i inner' inner) {from_ : Nat} (f : Fam) (n : Nat) {p : Nat} (hf : from_ < p) (hp : p ≤ i) :
    Cl i (famR D (s.extract 0 i) inner' from_ f n p) (famR D s inner from_ f n p) := by
  cases f
  case word => exact Cl.ok _ hp
  case whole => exact Cl.ok _ hp
  case below => exact Cl.ok _ hp
  case single => exact Cl.ok _ hp
  case double => exact Cl.ok _ hp
  case signed => exact (take_cl hi hp).bind (fun _ _ _ hq => Cl.ok _ hq) (fun _ _ _ => Nat.le_refl _)
  case bytes => exact (take_cl hi hp).bind (fun _ _ _ hq => Cl.ok _ hq) (fun _ _ _ => Nat.le_refl _)
  case ext =>
    exact (take_cl hi hp).bind (fun _ _ _ hq => (take_cl hi hq).bind (fun _ _ _ hz => Cl.ok _ hz) (fun _ _ _ => Nat.le_refl _))
      (fun _ _ _ => (take_ge.mono (by omega)).bind fun _ _ _ => Nat.le_refl _)
  case text => exact (text_cl hi hp).bind (fun _ _ _ hq => Cl.ok _ hq) (fun _ _ _ => Nat.le_refl _)
  case list =>
    match inner', inner, hg, ha with
    | none, none, _, _ => exact Cl.bad _ (by omega)
    | some it', some it, hg, ha => exact (rounds_cl hg ha n p [] hp).bind (fun _ _ _ hq => Cl.ok _ hq) (fun _ _ _ => Nat.le_refl _)
  case pairs =>
    match inner', inner, hg, ha with
    | none, none, _, _ => exact Cl.bad _ (by omega)
    | some it', some it, hg, ha => exact (pairs_cl D hg ha n p [] hp).bind (fun _ _ _ hq => Cl.ok _ hq) (fun _ _ _ => Nat.le_refl _)
theorem itemF_ge (s : ByteArray) {inner : Option (Nat → R V)} (hg : InGoes inner) (p : Nat) : OkGe (p + 1) (itemF D s inner p) := by
  refine take_ge.bind fun t q hq => ?_
  split
  · trivial
  · split
    · exact fam_ge D s hg _ _ _ _
    · exact (take_ge.mono (by omega)).bind fun _ _ _ => fam_ge D s hg _ _ _ _
theorem itemF_cl {s : ByteArray} {i : Nat} (hi : i ≤ s.size) {inner' inner : Option (Nat → R V)} (hg : InGoes inner) (ha : InAlike i inner' inner) {p : Nat} (hp : p ≤ i) : Cl i (itemF D (s.extract 0 i) inner' p) (itemF D s inner p) := by
  refine (take_cl hi hp).bind (fun t q ht hq => ?_) (fun t q _ => ?_)
  · have hlt : p < q := by
      have := take_ge (s := s) (p := p) (n := 1)
      rw [ht] at this
      exact this
    split
    · exact Cl.bad _ (by omega)
    · split
      · exact fam_cl D hi hg ha _ _ hlt hq
      · refine (take_cl hi hq).bind (fun t2 z ht2 hz => fam_cl D hi hg ha _ _ ?_ hz) (fun _ _ _ => fam_ge D s hg _ _ _ _)
        have := take_at ht2
        omega
  · split
    · trivial
    · split
      · exact fam_ge D s hg _ _ _ _
      · exact (take_ge.mono (by omega)).bind fun _ _ _ => fam_ge D s hg _ _ _ _
theorem itemN_ge (s : ByteArray) : ∀ d, Goes (itemN D s d)
  | 0 => fun p => itemF_ge D s (inner := none) trivial p
  | d + 1 => fun p => itemF_ge D s (inner := some (itemN D s d)) (itemN_ge s d) p
theorem itemN_cl {s : ByteArray} {i : Nat} (hi : i ≤ s.size) : ∀ d, Alike i (itemN D (s.extract 0 i) d) (itemN D s d)
  | 0 => fun _ hp => itemF_cl D hi (inner' := none) (inner := none) trivial trivial hp
  | d + 1 => fun _ hp => itemF_cl D hi (inner' := some _) (inner := some _) (itemN_ge D s d) (itemN_cl hi d) hp
/-- where a reading ended -/
theorem itemN_le (s : ByteArray) (d p : Nat) (hp : p ≤ s.size) : match itemN D s d p with | .ok _ q => q ≤ s.size | .bad _ q => q ≤ s.size := by
  have h := itemN_cl D (s := s) (i := s.size) (Nat.le_refl _) d p hp
  have e : s.extract 0 s.size = s := by simp
  rw [e] at h
  cases hr : itemN D s d p with
  | ok v q =>
    rw [hr] at h
    refine Decidable.byContradiction fun hc => ?_
    have hc' : s.size < q := Nat.lt_of_not_le hc
    have := h.2 hc'
    cases this
  | bad c q =>
    rw [hr] at h
    refine Decidable.byContradiction fun hc => ?_
    have hc' : s.size < q := Nat.lt_of_not_le hc
    have := h (by omega)
    simp only [R.bad.injEq] at this
    omega
/-- of what is read well no beginning is; of what is refused at a place each beginning ahead of it is refused at its end -/
theorem readN_cut {s : ByteArray} {i : Nat} (hi : i ≤ s.size) : match readN D s with
    | .ok _ _ => i < s.size → readN D (s.extract 0 i) = .bad 3 i
    | .bad _ q => q ≤ s.size ∧ (i < q → readN D (s.extract 0 i) = .bad 3 i) ∧ (i = q → readN D (s.extract 0 i) = .bad 3 i ∨ ∃ v p, readN D (s.extract 0 i) = .ok v p) := by
  have h := itemN_cl D hi 128 0 (Nat.zero_le _)
  have hle := itemN_le D s 128 0 (Nat.zero_le _)
  unfold readN
  cases hr : itemN D s 128 0 with
  | ok v q =>
    rw [hr] at h hle
    have hbad : i < q → (itemN D (s.extract 0 i) 128 0).bind (fun v p => if p < (s.extract 0 i).size then R.bad 3 p else R.ok v p) = .bad 3 i := fun hlt => by
      rw [h.2 hlt]; rfl
    by_cases hq : q < s.size
    · simp only [R.bind, if_pos hq] at hbad ⊢
      refine ⟨by omega, hbad, fun e => ?_⟩
      subst e
      rw [h.1 (Nat.le_refl _), ex_size s hi]
      simp
    · simp only [R.bind, if_neg hq] at hbad ⊢
      exact fun hlt => hbad (by omega)
  | bad c q =>
    rw [hr] at h hle
    simp only [R.bind]
    refine ⟨hle, fun hlt => ?_, fun e => .inl ?_⟩
    · rw [show itemN D (s.extract 0 i) 128 0 = .bad 3 i from h (by omega)]
    · rw [show itemN D (s.extract 0 i) 128 0 = .bad 3 i from h (by omega)]
end Go.Proofs.YteekndchkgdccaaGreatDoor

/- packread's family of texts: the walk. -/
namespace Go.Proofs.YteekndchkgdccaaGreatDoor
open Go.RowKit

theorem withinN_lt {l : List Nat} {k : Nat} : ∀ (n i : Nat) {q : Nat}, withinN l k n i = some q → q < l.length
  | 0, _, _, h => by simp [withinN] at h
  | n + 1, i, q, h => by
    simp only [withinN] at h
    split at h
    · rename_i h1
      split at h
      · exact withinN_lt n (i + 1) h
      · simp only [Option.some.injEq] at h; omega
    · cases h
theorem firstN_le {l : List Nat} {n q : Nat} (h : firstN l n = some q) : q ≤ l.length := by
  unfold firstN at h
  split at h
  · simp only [Option.some.injEq] at h; omega
  · split at h
    · simp only [Option.some.injEq] at h; omega
    · split at h
      · simp only [Option.some.injEq] at h; omega
      · exact Nat.le_of_lt (withinN_lt _ _ h)
/-- an error's end -/
theorem fam_bad {sa : Nat → Addr} {b b4 bb c q op : Nat} {s : ByteArray} {w w0 w8 w9 w10 : World} {X : R V} (hX : Hid (X = R.bad c q)) (HK0 : Hid (Keep nob w w0)) (HKW : Keep (· = b) w0 w8) (HK9 : Keep (· = b) w8 w9) (k : Keep (· = b4) w9 w10) (HL0 : Hid (w.heap.size ≤ b4 ∧ b4 < w0.heap.size))
    (he : FErr sa w9 (fun j => w8.heap.size ≤ j) (.iface 77 (.pointer (some ⟨bb, 0, none⟩))) c q) : FamPost sa b s op w X (.returned (.tuple #[ER.val Raw.zero, .iface 77 (.pointer (some ⟨bb, 0, none⟩))])) w10 := by
  rw [hX.out]
  have h1 := HL0.out
  have h2 := HKW.size
  exact ⟨_, rfl, (((HK0.out.mono (fun _ _ h => h.elim)).then_ HKW).then_ HK9).trans k (fun j h3 h4 => by omega), (he.keep k (fun j hj e => by omega)).mono (fun j _ hj => by have := HK0.out.size; omega)⟩
end Go.Proofs.YteekndchkgdccaaGreatDoor

/- packread.pick: the family of a first byte. -/
namespace Go.Proofs.YteekndchkgdccaaGreatDoor
open Go.RowKit

theorem then_exit {K : Act → World → Prop} {Q : Exit → Act → World → Prop} {l : Nat} {a : Act} {w : World} (h : Q (.exit l) a w) : Exit.then K Q (.exit l) a w := h
theorem in_eq {Q : Exit → Act → World → Prop} {l : Nat} {a : Act} {w : World} (h : Q .normal a w) : Exit.inBlock l Q (.exit l) a w := by
  simp only [Exit.inBlock, if_true]
  exact h
theorem in_ne {Q : Exit → Act → World → Prop} {l m : Nat} {a : Act} {w : World} (hn : l ≠ m) (h : Q (.exit m) a w) : Exit.inBlock l Q (.exit m) a w := by
  simp only [Exit.inBlock, if_neg hn.symm]
  exact h
theorem then_nl {K : Act → World → Prop} {Q : Exit → Act → World → Prop} {a : Act} {w : World} (h : K a w) : Exit.then K Q .normal a w := h
theorem in_nl {Q : Exit → Act → World → Prop} {l : Nat} {a : Act} {w : World} (h : Q .normal a w) : Exit.inBlock l Q .normal a w := h
theorem then_rt {K : Act → World → Prop} {Q : Exit → Act → World → Prop} {a : Act} {w : World} (h : Q .ret a w) : Exit.then K Q .ret a w := h
theorem in_rt {Q : Exit → Act → World → Prop} {l : Nat} {a : Act} {w : World} (h : Q .ret a w) : Exit.inBlock l Q .ret a w := h

theorem new1 (w : World) (v0 v1 v2 : Value) (T : TypeId) : (w.alloc (.cells #[v0, v1, v2] T)).cell? ⟨w.heap.size, 0, none⟩ = some v0 ∧ (w.alloc (.cells #[v0, v1, v2] T)).cell? ⟨w.heap.size, 1, none⟩ = some v1 ∧ (w.alloc (.cells #[v0, v1, v2] T)).cell? ⟨w.heap.size, 2, none⟩ = some v2 := by simp
theorem new2 (w : World) (v0 v1 v2 : Value) (T : TypeId) (o : Obj) : ((w.alloc (.cells #[v0, v1, v2] T)).alloc o).cell? ⟨w.heap.size, 0, none⟩ = some v0 ∧ ((w.alloc (.cells #[v0, v1, v2] T)).alloc o).cell? ⟨w.heap.size, 1, none⟩ = some v1 ∧ ((w.alloc (.cells #[v0, v1, v2] T)).alloc o).cell? ⟨w.heap.size, 2, none⟩ = some v2 := by simp
end Go.Proofs.YteekndchkgdccaaGreatDoor

/- packread.pick: the family of a first byte. -/
namespace Go.Proofs.YteekndchkgdccaaGreatDoor
open Go.RowKit
end Go.Proofs.YteekndchkgdccaaGreatDoor

/- packread.pick: the family of a first byte. -/
namespace Go.Proofs.YteekndchkgdccaaGreatDoor
open Go.RowKit
end Go.Proofs.YteekndchkgdccaaGreatDoor

/- packread.pick: the family of a first byte. -/
namespace Go.Proofs.YteekndchkgdccaaGreatDoor
open Go.RowKit
end Go.Proofs.YteekndchkgdccaaGreatDoor

/- packread.pick: the family of a first byte. -/
namespace Go.Proofs.YteekndchkgdccaaGreatDoor
open Go.RowKit

end Go.Proofs.YteekndchkgdccaaGreatDoor

/- What a store of an element leaves of a slice of one's own. -/
namespace Go.Proofs.YteekndchkgdccaaGreatDoor
open Go.RowKit
section
variable {α : Type} {E : El α} {w : World}
theorem range_put {b o i : Nat} {xs : List α} (hr : w.rangeAt b o (E.flat xs)) (hi : i < xs.length) (ht : w.there b (o + i * E.sz) E.sz) (y : α) :
    (w.setCells b (o + i * E.sz) (E.cells y)).rangeAt b o (E.flat (xs.set i y)) := by
  have hx : xs = xs.take i ++ (xs[i] :: xs.drop (i + 1)) := by simp
  have hs : xs.set i y = xs.take i ++ (y :: xs.drop (i + 1)) := by rw [List.set_eq_take_append_cons_drop, if_pos hi]
  have hl : (xs.take i).length = i := by simp; omega
  rw [hx, E.flat_app, E.flat_cons, range_app, range_app, E.flat_len, hl, E.len] at hr
  rw [hs, E.flat_app, E.flat_cons, range_app, range_app, E.flat_len, hl, E.len]
  refine ⟨World.rangeAt_setCells_apart hr.1 _ _ _ (.inr (.inl ?_)), World.rangeAt_setCells_same _ _ _ _ (by rw [E.len]; exact ht), World.rangeAt_setCells_apart hr.2.2 _ _ _ (.inr (.inr ?_))⟩
  · rw [E.flat_len, hl]; exact Nat.le_refl _
  · rw [E.len]; exact Nat.le_refl _
theorem Ow.put {b o c i : Nat} {xs : List α} (h : Ow E w (some ⟨b, o, none⟩) c xs) (hi : i < xs.length) (y : α) :
    Ow E (w.setCells b (o + i * E.sz) (E.cells y)) (some ⟨b, o, none⟩) c (xs.set i y) := by
  have hle := h.sl.le
  obtain ⟨b', o', e', ht⟩ := h.room (by omega)
  simp only [Option.some.injEq, Addr.mk.injEq, and_true] at e'
  obtain ⟨rfl, rfl⟩ := e'
  have h1 : i * E.sz + E.sz ≤ c * E.sz := by
    rw [← Nat.succ_mul]
    exact Nat.mul_le_mul_right _ (by omega)
  refine ⟨⟨by simpa using h.sl.le, h.sl.cap, fun _ => ⟨b, o, rfl, ?_⟩⟩, fun _ => ⟨b, o, rfl, World.there_setCells ht _ _ _⟩⟩
  obtain ⟨b', o', e', hr⟩ := h.sl.at_ (fun e => by subst e; simp at hi)
  simp only [Option.some.injEq, Addr.mk.injEq, and_true] at e'
  obtain ⟨rfl, rfl⟩ := e'
  exact range_put hr hi (there_sub ht (by omega) (by omega)) y
end
end Go.Proofs.YteekndchkgdccaaGreatDoor

/- whole.flip: bytes turned about. -/
namespace Go.Proofs.YteekndchkgdccaaGreatDoor
open Go.RowKit

/-- a byte -/
def EB : El Nat where
  sz := 1
  pos := by decide
  cells := fun x => [.int .u8 (x : Int)]
  len := fun _ => rfl
  one := fun x v h => by simp at h; subst h; rfl
  val := fun x => .int .u8 (x : Int)
/-- each byte turned about, from the end on, and what is carried added -/
def flipF (l : List Nat) (c : Nat) : Nat → List Nat
  | 0 => l
  | i + 1 => flipF (l.set i ((255 - l.getD i 0 + c) % 256)) (if (255 - l.getD i 0 + c) % 256 = 0 then c else 0) i
def B8 (l : List Nat) : Prop := ∀ x ∈ l, x < 256
theorem B8.set {l : List Nat} (h : B8 l) (i : Nat) {y : Nat} (hy : y < 256) : B8 (l.set i y) := fun x hx => by
  rcases List.mem_or_eq_of_mem_set hx with hx | rfl
  · exact h x hx
  · exact hy
theorem B8.bl (s : ByteArray) : B8 (bl s) := fun x hx => by
  simp only [Proofs.YteekndchkgdccaaGreatDoor.bl, List.mem_map] at hx
  obtain ⟨u, _, rfl⟩ := hx
  exact UInt8.toNat_lt u

theorem not8_all : ∀ x : Fin 256, bits .xor .u8 (if IntKind.u8.signed = true then -1 else IntKind.u8.max) ((x.val : Nat) : Int) = ((255 - x.val : Nat) : Int) := by decide +kernel
theorem not8 {x : Nat} (h : x < 256) : bits .xor .u8 (if IntKind.u8.signed = true then -1 else IntKind.u8.max) (x : Int) = ((255 - x : Nat) : Int) := not8_all ⟨x, h⟩
end Go.Proofs.YteekndchkgdccaaGreatDoor

/- Natural numbers as lists of limbs: what a list is worth, the list of a number. Plain Lean. -/
namespace Go.Proofs.YteekndchkgdccaaGreatDoor

def B32 : Nat := 4294967296
/-- what a list of limbs is worth -/
def valL : List Nat → Nat
  | [] => 0
  | x :: l => x + 4294967296 * valL l
/-- all limbs have 32 bits -/
def Bd (l : List Nat) : Prop := ∀ x ∈ l, x < 4294967296
/-- so many limbs of a number -/
def limbsF : Nat → Nat → List Nat
  | 0, _ => []
  | f + 1, x => x % 4294967296 :: limbsF f (x / 4294967296)
/-- the limbs of a number, no noughts at their end -/
def numL (x : Nat) : List Nat := if x = 0 then [] else limbsF (x.log2 / 32 + 1) x
/-- no noughts at its end -/
def Nrm : List Nat → Prop
  | [] => True
  | [x] => x ≠ 0
  | _ :: y :: l => Nrm (y :: l)

theorem Bd.nil : Bd [] := fun _ h => by simp at h
theorem Bd.cons {x : Nat} {l : List Nat} (hx : x < 4294967296) (h : Bd l) : Bd (x :: l) := fun y hy => by
  rcases List.mem_cons.1 hy with rfl | hy
  · exact hx
  · exact h y hy
theorem Bd.tail {x : Nat} {l : List Nat} (h : Bd (x :: l)) : Bd l := fun y hy => h y (List.mem_cons_of_mem _ hy)
theorem Bd.head {x : Nat} {l : List Nat} (h : Bd (x :: l)) : x < 4294967296 := h x List.mem_cons_self
theorem Bd.take {l : List Nat} (h : Bd l) (n : Nat) : Bd (l.take n) := fun y hy => h y (List.mem_of_mem_take hy)
theorem Bd.getD {l : List Nat} (h : Bd l) (i : Nat) : l.getD i 0 < 4294967296 := by
  rw [List.getD_eq_getElem?_getD]
  cases hx : l[i]? with
  | none => decide
  | some x => exact h x (List.mem_of_getElem? hx)
theorem limbsF_len : ∀ f x, (limbsF f x).length = f
  | 0, _ => rfl
  | f + 1, x => by simp [limbsF, limbsF_len f]
theorem limbsF_bd : ∀ f x, Bd (limbsF f x)
  | 0, _ => Bd.nil
  | f + 1, x => Bd.cons (by omega) (limbsF_bd f _)
theorem limbsF_val : ∀ f x, valL (limbsF f x) = x % 4294967296 ^ f
  | 0, x => by simp [limbsF, valL, Nat.mod_one]
  | f + 1, x => by
    rw [limbsF, valL, limbsF_val f, Nat.pow_succ, Nat.mul_comm (4294967296 ^ f), Nat.mod_mul]
theorem valL_lt : ∀ {l : List Nat}, Bd l → valL l < 4294967296 ^ l.length
  | [], _ => by simp [valL]
  | x :: l, h => by
    have h1 := valL_lt h.tail
    have h2 := h.head
    rw [valL, List.length_cons, Nat.pow_succ]
    omega
theorem valL_app : ∀ (l l' : List Nat), valL (l ++ l') = valL l + 4294967296 ^ l.length * valL l'
  | [], l' => by simp [valL]
  | x :: l, l' => by
    rw [List.cons_append, valL, valL, valL_app l l', List.length_cons, Nat.pow_succ, Nat.mul_add, Nat.mul_comm (4294967296 ^ l.length) 4294967296, Nat.mul_assoc]
    omega
theorem limbs_of_val : ∀ {l : List Nat}, Bd l → limbsF l.length (valL l) = l
  | [], _ => rfl
  | x :: l, h => by
    have h1 := h.head
    rw [List.length_cons, limbsF, valL, show (x + 4294967296 * valL l) % 4294967296 = x by omega, show (x + 4294967296 * valL l) / 4294967296 = valL l by omega, limbs_of_val h.tail]
theorem Nrm.pos : ∀ {l : List Nat}, Nrm l → l ≠ [] → 4294967296 ^ (l.length - 1) ≤ valL l
  | [], _, h => absurd rfl h
  | [x], h, _ => by simp only [Nrm] at h; simp [valL]; omega
  | x :: y :: l, h, _ => by
    have h1 := Nrm.pos (l := y :: l) h (by simp)
    rw [valL]
    simp only [List.length_cons, Nat.add_sub_cancel] at h1 ⊢
    rw [Nat.pow_succ]
    omega
theorem pow32 (n : Nat) : 4294967296 ^ n = 2 ^ (32 * n) := by rw [Nat.pow_mul]
/-- a list in normal form is the list of its number -/
theorem numL_val {l : List Nat} (hb : Bd l) (hn : Nrm l) : numL (valL l) = l := by
  unfold numL
  by_cases h0 : l = []
  · subst h0; rfl
  · have h1 := hn.pos h0
    have h2 := valL_lt hb
    have hp : 0 < l.length := List.length_pos_iff.2 h0
    have h3 : 0 < 4294967296 ^ (l.length - 1) := Nat.pow_pos (by decide)
    have hz : valL l ≠ 0 := by omega
    rw [if_neg hz]
    rw [pow32] at h1 h2
    have e1 : 32 * (l.length - 1) ≤ (valL l).log2 := (Nat.le_log2 hz).2 h1
    have e2 : (valL l).log2 < 32 * l.length := (Nat.log2_lt hz).2 h2
    rw [show (valL l).log2 / 32 + 1 = l.length by omega]
    exact limbs_of_val hb
theorem numL_bd (x : Nat) : Bd (numL x) := by
  unfold numL
  split
  · exact Bd.nil
  · exact limbsF_bd _ _
theorem valL_numL (x : Nat) : valL (numL x) = x := by
  unfold numL
  split
  · rename_i h; rw [h]; rfl
  · rename_i h
    rw [limbsF_val, pow32]
    have h1 : x < 2 ^ (x.log2 + 1) := Nat.lt_log2_self
    refine Nat.mod_eq_of_lt (Nat.lt_of_lt_of_le h1 (Nat.pow_le_pow_right (by decide) (by omega)))
theorem limbsF_nrm : ∀ (f x : Nat), 4294967296 ^ f ≤ x → x < 4294967296 ^ (f + 1) → Nrm (limbsF (f + 1) x)
  | 0, x, h, h' => by
    simp only [limbsF, Nrm]
    simp at h h'
    omega
  | f + 1, x, h, h' => by
    have := limbsF_nrm f (x / 4294967296) (by rw [Nat.le_div_iff_mul_le (by decide), ← Nat.pow_succ]; exact h) (by rw [Nat.div_lt_iff_lt_mul (by decide), ← Nat.pow_succ]; exact h')
    exact this
theorem numL_nrm (x : Nat) : Nrm (numL x) := by
  unfold numL
  split
  · trivial
  · rename_i h
    refine limbsF_nrm _ _ ?_ ?_
    · rw [pow32]
      exact Nat.le_trans (Nat.pow_le_pow_right (by decide) (by omega)) (Nat.log2_self_le h)
    · rw [pow32]
      exact Nat.lt_of_lt_of_le Nat.lt_log2_self (Nat.pow_le_pow_right (by decide) (by omega))

/-! ### noughts at the end -/
theorem nrm_last : ∀ {l : List Nat}, (∀ h : l ≠ [], l.getLast h ≠ 0) → Nrm l
  | [], _ => trivial
  | [x], h => h (by simp)
  | x :: y :: l, h => nrm_last (l := y :: l) (fun h' => by have := h (by simp); rwa [List.getLast_cons h'] at this)
theorem Nrm.last : ∀ {l : List Nat}, Nrm l → ∀ h : l ≠ [], l.getLast h ≠ 0
  | [], _, h => absurd rfl h
  | [x], h, _ => h
  | x :: y :: l, h, _ => by rw [List.getLast_cons (by simp)]; exact Nrm.last (l := y :: l) h _
theorem cutN_last (l : List Nat) : ∀ n, 0 < cutN l n → l.getD (cutN l n - 1) 0 ≠ 0
  | 0, h => by simp [cutN] at h
  | n + 1, h => by
    unfold cutN at h ⊢
    split
    · rename_i h0; rw [if_pos h0] at h; exact cutN_last l n h
    · rename_i h0; simpa using h0
theorem cutN_zero (l : List Nat) : ∀ n i, cutN l n ≤ i → i < n → l.getD i 0 = 0
  | 0, _, _, h => by omega
  | n + 1, i, h, h' => by
    unfold cutN at h
    split at h
    · rename_i h0
      rcases Nat.lt_or_ge i n with h1 | h1
      · exact cutN_zero l n i h h1
      · rw [show i = n by omega]; exact h0
    · omega
theorem cutL_nrm (l : List Nat) : Nrm (cutL l) := by
  refine nrm_last (fun h => ?_)
  have hl := cutL_len l
  have hp : 0 < (cutL l).length := List.length_pos_iff.2 h
  rw [List.getLast_eq_getElem]
  have h1 := cutN_last l l.length (by omega)
  have hle := cutN_le l l.length
  rw [List.getD_eq_getElem?_getD, List.getElem?_eq_getElem (by omega)] at h1
  simp only [cutL, List.getElem_take, List.length_take]
  simp only [Nat.min_eq_left hle]
  exact h1
theorem valL_zero : ∀ {l : List Nat}, (∀ x ∈ l, x = 0) → valL l = 0
  | [], _ => rfl
  | x :: l, h => by rw [valL, h x List.mem_cons_self, valL_zero (fun y hy => h y (List.mem_cons_of_mem _ hy))]
theorem cutL_val (l : List Nat) : valL (cutL l) = valL l := by
  have e : l = cutL l ++ l.drop (cutN l l.length) := (List.take_append_drop _ _).symm
  conv => rhs; rw [e]
  rw [valL_app, valL_zero (l := l.drop _) (fun x hx => ?_)]
  · omega
  · obtain ⟨i, hi, rfl⟩ := List.getElem_of_mem hx
    rw [List.length_drop] at hi
    have := cutN_zero l l.length (cutN l l.length + i) (by omega) (by omega)
    rw [List.getD_eq_getElem?_getD, List.getElem?_eq_getElem (by omega)] at this
    rw [List.getElem_drop]
    exact this
theorem cutL_num {l : List Nat} (h : Bd l) : cutL l = numL (valL l) := by
  rw [← cutL_val]; exact (numL_val (l := cutL l) (h.take _) (cutL_nrm l)).symm
theorem cutN_num {l : List Nat} (h : Bd l) : cutN l l.length = (numL (valL l)).length := by rw [← cutL_num h, cutL_len]
theorem numL_zero_iff (x : Nat) : numL x = [] ↔ x = 0 := by
  refine ⟨fun h => ?_, fun h => by subst h; rfl⟩
  have := valL_numL x
  rw [h] at this
  exact this.symm
theorem numL_pos_iff (x : Nat) : 0 < (numL x).length ↔ 0 < x := by
  rw [List.length_pos_iff, Ne, numL_zero_iff]
  omega
theorem numL_len_le {x f : Nat} (h : x < 4294967296 ^ f) : (numL x).length ≤ f := by
  by_cases h0 : x = 0
  · subst h0; exact Nat.zero_le _
  · have h1 := (numL_nrm x).pos (fun e => h0 ((numL_zero_iff x).1 e))
    rw [valL_numL] at h1
    refine Decidable.byContradiction fun hc => ?_
    have : 4294967296 ^ f ≤ 4294967296 ^ ((numL x).length - 1) := Nat.pow_le_pow_right (by decide) (by omega)
    omega
end Go.Proofs.YteekndchkgdccaaGreatDoor

/- whole.FromTwos. -/
namespace Go.Proofs.YteekndchkgdccaaGreatDoor
open Go.RowKit

/-- '[]byte(s)' -/
theorem bytes_conv (w : World) (s : ByteArray) (hs : s.size ≤ 1000000000) : ∃ w1 bb cap, (convert 9 82 (.string s)).run Tryz.prog w = .ok (.slice (some ⟨bb, 0, none⟩) s.size cap) w1 ∧ Hid (Ow EB w1 (some ⟨bb, 0, none⟩) cap (bl s)) ∧ Hid (Keep nob w w1) ∧ Hid (w.heap.size ≤ bb ∧ bb < w1.heap.size) := by
  have hr := run_bytes_of_string (P := Tryz.prog) w 9 82 5 s Tryz.underlying9 Tryz.underlying82 Tryz.underlying5
  refine ⟨_, _, _, hr, Lib.hid ?_, Lib.hid (((Keep.refl nob w).drew).alloc _), Lib.hid ⟨Nat.le_refl _, by show w.heap.size < (w.heap.push _).size; simp⟩⟩
  have hge : s.size ≤ grownCap w s.size 0 5 := grownCap_ge w s.size 0 _
  have hcm : grownCap w s.size 0 5 ≤ 9223372036854775807 := by
    have := grownCap_le_maxLen w s.size 0 5 (by unfold maxLen; omega)
    unfold maxLen at this; omega
  generalize hcap : grownCap w s.size 0 5 = cap at hge hcm
  have hsz : (bytesRow s cap).size = cap := by
    unfold bytesRow
    rw [Array.size_append, Array.size_map, Array.size_replicate]
    have : s.data.size = s.size := rfl
    omega
  generalize hC : bytesRow s cap = C at hsz
  have hh : (w.drew.alloc (.cells C 5 (C.size, C.size + 1))).heap[w.heap.size]? = some (.cells C 5 (C.size, C.size + 1)) := by
    show (w.heap.push _)[w.heap.size]? = _
    simp
  have hfl : EB.flat (bl s) = s.data.toList.map (fun b => Value.int .u8 (b.toNat : Int)) := by
    unfold bl El.flat
    rw [List.flatMap_map]
    simp only [EB]
    induction s.data.toList with
    | nil => rfl
    | cons a l ih => simp only [List.flatMap_cons, List.map_cons, ih, List.singleton_append]
  refine ⟨⟨by rw [bl_len]; exact hge, hcm, fun _ => ⟨_, _, rfl, ?_⟩⟩, fun _ => ⟨_, _, rfl, ?_⟩⟩
  · intro j v hv
    rw [hfl] at hv
    simp only [World.cell?, hh, Option.isSome_none, Bool.false_eq_true, if_false, Nat.zero_add]
    have hj := (List.getElem?_eq_some_iff.1 hv).1
    simp only [List.length_map] at hj
    rw [← hC, bytesRow, Array.getElem?_append_left (by simpa using hj)]
    simpa using hv
  · intro j hj
    have hj' : j < C.size := by rw [hsz]; simpa [EB] using hj
    constructor
    · simp only [World.cell?, hh, Option.isSome_none, Bool.false_eq_true, if_false, Nat.zero_add]
      rw [Array.getElem?_eq_getElem hj']; rfl
    · unfold World.frozen?
      rw [hh]
      simp; omega

/-- bytes, the highest first, as limbs: the places from k - 1 down -/
def limbG (b : List Nat) : Nat → List Nat → List Nat
  | 0, m => m
  | k + 1, m => limbG b k (m.set (k / 4) (m.getD (k / 4) 0 ||| b.getD (b.length - 1 - k) 0 * 2 ^ (k % 4 * 8)))
def twoL (s : ByteArray) : List Nat := limbG (if 128 ≤ (bl s).headD 0 then flipF (bl s) 1 s.size else bl s) s.size (List.replicate ((s.size + 3) / 4) 0)
theorem flipF_len : ∀ (n : Nat) (l : List Nat) (c : Nat), (flipF l c n).length = l.length
  | 0, _, _ => rfl
  | n + 1, l, c => by rw [flipF, flipF_len n, List.length_set]
theorem flipF_B8 : ∀ (n : Nat) (l : List Nat) (c : Nat), B8 l → B8 (flipF l c n)
  | 0, _, _, h => h
  | n + 1, l, c, h => by rw [flipF]; exact flipF_B8 n _ _ (h.set _ (by omega))
theorem limbG_len : ∀ (k : Nat) (b m : List Nat), (limbG b k m).length = m.length
  | 0, _, _ => rfl
  | k + 1, b, m => by rw [limbG, limbG_len k, List.length_set]

end Go.Proofs.YteekndchkgdccaaGreatDoor

/- packread's family of numbers with a sign. -/
namespace Go.Proofs.YteekndchkgdccaaGreatDoor
open Go.RowKit

def twosV (t : ByteArray) : V := V.int (negN (decide (128 ≤ (bl t).headD 0) && decide (0 < cutN (twoL t) (twoL t).length)) (cutN (cutL (twoL t)) (cutN (twoL t) (twoL t).length))) (cutL (cutL (twoL t)))
end Go.Proofs.YteekndchkgdccaaGreatDoor

/- math/bits: Len32, TrailingZeros64. -/
namespace Go.Proofs.YteekndchkgdccaaGreatDoor
open Go.RowKit

theorem len8_at (c : Nat) (h : c < 256) (w : World) : (Instr.index 9 (.string Lib.len8tab) (.int .u8 (c : Int))).run Tryz.prog w = .ok (.int .u8 ((Lib.bitLen c : Nat) : Int)) w := by
  have h1 := Lib.run_index_len8tab (P := Tryz.prog) w 9 .u8 (c : Int) Tryz.underlying9 (by omega) (by omega)
  rw [h1, Lib.len8_of (c : Int) (by omega) (by omega), Int.toNat_natCast]
set_option maxRecDepth 100000 in
theorem len32_a (x : Nat) (hlo : 0 ≤ x) (hhi : x < 256) (w : World) : Calls Tryz.prog 100 #[.int .u32 (x : Int)] w fun e w' => e = .returned (.int .i64 ((Lib.bitLen x : Nat) : Int)) ∧ w' = w := by
  obtain ⟨c, HC⟩ : ∃ c, Hid (x = c) := ⟨_, Lib.hid rfl⟩
  have hc : c < 256 := by rw [← HC.out]; omega
  have hb : Lib.bitLen x = 0 + Lib.bitLen c := by rw [← HC.out]; simp
  have hidx := fun wv : World => len8_at c hc wv
  obtain ⟨y, HY⟩ : ∃ y, Hid (Lib.bitLen c = y) := ⟨_, Lib.hid rfl⟩
  have hy : y ≤ 8 := by rw [← HY.out]; exact Lib.bitLen_le8 ⟨c, hc⟩
  rw [HY.out] at hidx hb
  rw [hb]
  have w8 : IntKind.u8.wrap (c : Int) = (c : Int) := by rw [IntKind.wrap_u8]; omega
  have w64 : IntKind.i64.wrap (y : Int) = (y : Int) := by rw [IntWalk.i64_left, IntWalk.wrap64_in _ ⟨by omega, by omega⟩]
  have a64 : IntKind.i64.wrap (0 + (y : Int)) = ((0 + y : Nat) : Int) := by rw [IntWalk.i64_left, IntWalk.wrap64_in _ ⟨by omega, by omega⟩]; omega
  have f1 : ¬ (x : Int) ≥ 65536 := by omega
  have f2 : ¬ (x : Int) ≥ 256 := by omega
  have f3 : IntKind.u8.wrap (x : Int) = (c : Int) := by rw [HC.out]; exact w8
  clear hb
  go_enter Tryz.func100, Tryz.ntmps100
  go_wp2
  go_ret
  refine ⟨?_, rfl⟩
  simp
set_option maxRecDepth 100000 in
theorem len32_b (x : Nat) (hlo : 256 ≤ x) (hhi : x < 65536) (w : World) : Calls Tryz.prog 100 #[.int .u32 (x : Int)] w fun e w' => e = .returned (.int .i64 ((Lib.bitLen x : Nat) : Int)) ∧ w' = w := by
  obtain ⟨c, HC⟩ : ∃ c, Hid (x / 256 = c) := ⟨_, Lib.hid rfl⟩
  have hc : c < 256 := by rw [← HC.out]; omega
  have hb : Lib.bitLen x = 8 + Lib.bitLen c := by rw [← HC.out]; exact Lib.bitLen_shift8 x hlo (by omega)
  have hidx := fun wv : World => len8_at c hc wv
  obtain ⟨y, HY⟩ : ∃ y, Hid (Lib.bitLen c = y) := ⟨_, Lib.hid rfl⟩
  have hy : y ≤ 8 := by rw [← HY.out]; exact Lib.bitLen_le8 ⟨c, hc⟩
  rw [HY.out] at hidx hb
  rw [hb]
  have w8 : IntKind.u8.wrap (c : Int) = (c : Int) := by rw [IntKind.wrap_u8]; omega
  have w64 : IntKind.i64.wrap (y : Int) = (y : Int) := by rw [IntWalk.i64_left, IntWalk.wrap64_in _ ⟨by omega, by omega⟩]
  have a64 : IntKind.i64.wrap (8 + (y : Int)) = ((8 + y : Nat) : Int) := by rw [IntWalk.i64_left, IntWalk.wrap64_in _ ⟨by omega, by omega⟩]; omega
  have f1 : ¬ (x : Int) ≥ 65536 := by omega
  have f2 : (x : Int) ≥ 256 := by omega
  have f3 : (x : Int) / 256 = (c : Int) := by rw [← HC.out]; omega
  have f4 : IntKind.u32.wrap (c : Int) = (c : Int) := by rw [IntKind.wrap_u32]; omega
  clear hb
  go_enter Tryz.func100, Tryz.ntmps100
  go_wp2
  go_ret
  refine ⟨?_, rfl⟩
  simp
set_option maxRecDepth 100000 in
theorem len32_c (x : Nat) (hlo : 65536 ≤ x) (hhi : x < 16777216) (w : World) : Calls Tryz.prog 100 #[.int .u32 (x : Int)] w fun e w' => e = .returned (.int .i64 ((Lib.bitLen x : Nat) : Int)) ∧ w' = w := by
  obtain ⟨c, HC⟩ : ∃ c, Hid (x / 65536 = c) := ⟨_, Lib.hid rfl⟩
  have hc : c < 256 := by rw [← HC.out]; omega
  have hb : Lib.bitLen x = 16 + Lib.bitLen c := by rw [← HC.out]; exact Lib.bitLen_shift16 x hlo (by omega)
  have hidx := fun wv : World => len8_at c hc wv
  obtain ⟨y, HY⟩ : ∃ y, Hid (Lib.bitLen c = y) := ⟨_, Lib.hid rfl⟩
  have hy : y ≤ 8 := by rw [← HY.out]; exact Lib.bitLen_le8 ⟨c, hc⟩
  rw [HY.out] at hidx hb
  rw [hb]
  have w8 : IntKind.u8.wrap (c : Int) = (c : Int) := by rw [IntKind.wrap_u8]; omega
  have w64 : IntKind.i64.wrap (y : Int) = (y : Int) := by rw [IntWalk.i64_left, IntWalk.wrap64_in _ ⟨by omega, by omega⟩]
  have a64 : IntKind.i64.wrap (16 + (y : Int)) = ((16 + y : Nat) : Int) := by rw [IntWalk.i64_left, IntWalk.wrap64_in _ ⟨by omega, by omega⟩]; omega
  have f1 : (x : Int) ≥ 65536 := by omega
  have f3 : (x : Int) / 65536 = (c : Int) := by rw [← HC.out]; omega
  have f2 : ¬ (c : Int) ≥ 256 := by omega
  have f4 : IntKind.u32.wrap (c : Int) = (c : Int) := by rw [IntKind.wrap_u32]; omega
  clear hb
  go_enter Tryz.func100, Tryz.ntmps100
  go_wp2
  go_ret
  refine ⟨?_, rfl⟩
  simp
set_option maxRecDepth 100000 in
theorem len32_d (x : Nat) (hlo : 16777216 ≤ x) (hhi : x < 4294967296) (w : World) : Calls Tryz.prog 100 #[.int .u32 (x : Int)] w fun e w' => e = .returned (.int .i64 ((Lib.bitLen x : Nat) : Int)) ∧ w' = w := by
  obtain ⟨c, HC⟩ : ∃ c, Hid (x / 16777216 = c) := ⟨_, Lib.hid rfl⟩
  have hc : c < 256 := by rw [← HC.out]; omega
  have hb : Lib.bitLen x = 24 + Lib.bitLen c := by rw [← HC.out]; exact Lib.bitLen_shift24 x hlo (by omega)
  have hidx := fun wv : World => len8_at c hc wv
  obtain ⟨y, HY⟩ : ∃ y, Hid (Lib.bitLen c = y) := ⟨_, Lib.hid rfl⟩
  have hy : y ≤ 8 := by rw [← HY.out]; exact Lib.bitLen_le8 ⟨c, hc⟩
  rw [HY.out] at hidx hb
  rw [hb]
  have w8 : IntKind.u8.wrap (c : Int) = (c : Int) := by rw [IntKind.wrap_u8]; omega
  have w64 : IntKind.i64.wrap (y : Int) = (y : Int) := by rw [IntWalk.i64_left, IntWalk.wrap64_in _ ⟨by omega, by omega⟩]
  have a64 : IntKind.i64.wrap (24 + (y : Int)) = ((24 + y : Nat) : Int) := by rw [IntWalk.i64_left, IntWalk.wrap64_in _ ⟨by omega, by omega⟩]; omega
  have f1 : (x : Int) ≥ 65536 := by omega
  obtain ⟨d, HD⟩ : ∃ d, Hid (x / 65536 = d) := ⟨_, Lib.hid rfl⟩
  have f3 : (x : Int) / 65536 = (d : Int) := by rw [← HD.out]; omega
  have f2 : (d : Int) ≥ 256 := by rw [← HD.out]; omega
  have f5 : (d : Int) / 256 = (c : Int) := by rw [← HC.out, ← HD.out]; omega
  have f4 : IntKind.u32.wrap (c : Int) = (c : Int) := by rw [IntKind.wrap_u32]; omega
  clear hb
  go_enter Tryz.func100, Tryz.ntmps100
  go_wp2
  go_ret
  refine ⟨?_, rfl⟩
  simp
theorem len32_ok (x : Nat) (h : x < 4294967296) (w : World) : Calls Tryz.prog 100 #[.int .u32 (x : Int)] w fun e w' => e = .returned (.int .i64 ((Lib.bitLen x : Nat) : Int)) ∧ w' = w := by
  rcases Nat.lt_or_ge x 256 with h1 | h1
  · exact len32_a x (Nat.zero_le _) h1 w
  · rcases Nat.lt_or_ge x 65536 with h2 | h2
    · exact len32_b x h1 h2 w
    · rcases Nat.lt_or_ge x 16777216 with h3 | h3
      · exact len32_c x h2 h3 w
      · exact len32_d x h3 h w
set_option maxRecDepth 100000 in
theorem tz64_core (x idx k : Nat) (hxi : ¬ (x : Int) = 0) (hi : idx < 64) (hk : k < 64) (w : World)
    (key : IntKind.u64.wrap (bits BinOp.and IntKind.u64 (x : Int) (IntKind.u64.wrap (-(x : Int))) * 285870213051353865) / 288230376151711744 = (idx : Int))
    (hcell : w.cell? ⟨14, idx, none⟩ = some (.int .u8 (k : Int))) : Calls Tryz.prog 80 #[.int .u64 (x : Int)] w fun e w' => e = .returned (.int .i64 (k : Int)) ∧ w' = w := by
  have i1 : IntKind.i64.wrap (k : Int) = (k : Int) := by rw [IntWalk.i64_left, IntWalk.wrap64_in _ ⟨by omega, by omega⟩]
  go_enter Tryz.func80, Tryz.ntmps80
  go_wp2_with (simp only [key])
  go_ret
  refine ⟨?_, rfl⟩
  simp
theorem tz64_ok (x B : Nat) (hx : x < 18446744073709551616) (sa : Nat → Addr) (w : World) (g : GL B sa w) :
    Calls Tryz.prog 80 #[.int .u64 (x : Int)] w fun e w' => e = .returned (.int .i64 ((Lib.ctz 64 x : Nat) : Int)) ∧ w' = w := by
  by_cases hx0 : x = 0
  · subst hx0
    go_enter Tryz.func80, Tryz.ntmps80
    go_wp2
    go_ret
    exact ⟨rfl, rfl⟩
  · obtain ⟨hlow, hk⟩ := Lib.lowest_bit 64 x hx0 hx
    obtain ⟨hi, htab⟩ := Lib.deBruijn64_at _ hk
    have hcell := g.tz _ hi
    rw [show tzL = Lib.deBruijn64tab from rfl, htab] at hcell
    exact tz64_core x _ _ (by omega) hi hk w (tz64_key x _ hx hx0 hlow) hcell
end Go.Proofs.YteekndchkgdccaaGreatDoor

/- Regions that draw their order and whose operations and calls keep all memory that there was: one walk in the order of the text. -/
namespace Go.Proofs.YteekndchkgdccaaGreatDoor
open Go.RowKit

/-- a walk behind a name: Lean's unifier else reckons on through operations that are not wanted -/
structure QV (p : Prop) : Prop where
  out : p
abbrev Kept (w w' : World) : Prop := Keep (fun _ => False) w w'
section
variable {P : Program} {Q : Exit → Act → World → Prop}
theorem wp_region_kept {id : Nat} {a : Act} {w : World} {l : List Oper} (hm : P.follows .mixedOrders = true) (hB : Region.lexB .any l.toArray = true)
    (h : wpQuiet P l.toArray (Kept w) (fun a' => ∀ w', Kept w w' → Q .normal a' w') l a) : (Code.region id l.toArray true).wp P Q a w :=
  wp_region_quiet (C := Kept w) hm hB ((Keep.refl _ w).drew) (by simpa using h)
theorem kq_skip {C : World → Prop} {ops : Array Oper} {Q : Act → Prop} {a : Act} {o : Oper} {rest : List Oper} (hw : Region.wanted o (yielded ops a.tmps) = false)
    (h : ∀ K : Act → Prop, (∀ a, QV (wpQuiet P ops C Q rest a) → K a) → K (a.put o.dst undef)) : QV (wpQuiet P ops C Q (o :: rest) a) :=
  ⟨BigFrame.wpQuiet_skip hw (h _ (fun _ h => h)).out⟩
theorem kq_want {C : World → Prop} {ops : Array Oper} {Q : Act → Prop} {a : Act} {o : Oper} {rest : List Oper} (hw : Region.wanted o (yielded ops a.tmps) = true)
    (h : ∀ K : Act → Prop, (∀ a, QV (wpQuiet P ops C Q rest a) → K a) → o.quiet P a C K) : QV (wpQuiet P ops C Q (o :: rest) a) :=
  ⟨BigFrame.wpQuiet_want hw fun K hK => h K fun a ha => hK a ha.out⟩
theorem kq_still {C : World → Prop} {o : Oper} {a : Act} {K : Act → Prop} (v : Value) (h : ∀ w', C w' → (execOp a.eval o).run P w' = .ok (.value v) w') (hk : K (a.put o.dst v)) : o.quiet P a C K :=
  ⟨v, fun w' hw' => by unfold Oper.quietAt; rw [h w' hw']; exact ⟨rfl, rfl⟩, hk⟩
theorem kq_call {w : World} {o : Oper} {a : Act} {K : Act → Prop} {f : FuncId} {args : Array Value} {v : Value} (hr : ∀ w', (execOp a.eval o).run P w' = .ok (.enter f args) w')
    (hc : ∀ w', Kept w w' → Calls P f args w' fun e w'' => e = .returned v ∧ Kept w' w'') (hk : K (a.put o.dst v)) : o.quiet P a (Kept w) K :=
  ⟨v, fun w' hw' => by unfold Oper.quietAt; rw [hr w']; exact ⟨rfl, (hc w' hw').mono fun e w'' ⟨h1, h2⟩ => ⟨h1, hw'.then_ h2⟩⟩, hk⟩
end
end Go.Proofs.YteekndchkgdccaaGreatDoor

/- ieee: shapes, signs, infinity. -/
namespace Go.Proofs.YteekndchkgdccaaGreatDoor
open Go.RowKit

/-- a shape's value -/
def shV (F : Nat) (L : Int) (X : Nat) : Value := .agg #[.int .i64 (F : Int), .int .i64 L, .int .i64 (X : Int)]
theorem load_sh {w : World} {b o : Nat} {v0 v1 v2 : Value} (h0 : w.cell? ⟨b, o, none⟩ = some v0) (h1 : w.cell? ⟨b, o + 1, none⟩ = some v1) (h2 : w.cell? ⟨b, o + 2, none⟩ = some v2) : (loadVar 141 ⟨b, o, none⟩).run Tryz.prog w = .ok (.agg #[v0, v1, v2]) w := by
  go_simp
theorem ret_sh {fn : Func} {p : Tmp} {R : Ending → World → Prop} {a : Act} {w : World} {b : Nat} {v0 v1 v2 : Value} (h : fn.results = #[.cell p 141]) (hp : a.tmps.getD p undef = .pointer (some ⟨b, 0, none⟩)) (hd : a.defers = [])
    (h0 : w.cell? ⟨b, 0, none⟩ = some v0) (h1 : w.cell? ⟨b, 1, none⟩ = some v1) (h2 : w.cell? ⟨b, 2, none⟩ = some v2) (hR : R (.returned (.agg #[v0, v1, v2])) w) : bodyPost Tryz.prog fn R .ret a w := by
  refine bodyPost_ret (v := .agg #[v0, v1, v2]) ?_ hd hR
  have hl := load_sh h0 h1 h2
  have hp' : a.tmps[p]?.getD undef = .pointer (some ⟨b, 0, none⟩) := by rw [← hp]; simp
  simp [results, h, hp', asAddr, hl]
theorem sh_new (w : World) (v0 v1 v2 : Value) (T : TypeId) : (w.alloc (.cells #[v0, v1, v2] T)).cell? ⟨w.heap.size, 0, none⟩ = some v0 ∧ (w.alloc (.cells #[v0, v1, v2] T)).cell? ⟨w.heap.size, 1, none⟩ = some v1 ∧ (w.alloc (.cells #[v0, v1, v2] T)).cell? ⟨w.heap.size, 2, none⟩ = some v2 := by simp
set_option maxRecDepth 100000 in
theorem of64_ok (B : Nat) (sa : Nat → Addr) (w : World) (g : GL B sa w) : Calls Tryz.prog 67 #[] w fun e w' => e = .returned (shV 52 (-1074) 11) ∧ Keep nob w w' := by
  have c0 : (w.alloc (.cells #[.int .i64 0, .int .i64 0, .int .i64 0] 141)).cell? ⟨13, 6, none⟩ = some (.int .i64 52) := by
    rw [World.cell?_alloc_lt _ _ _ (by have := g.le; have := g.lt; show 13 < _; omega)]
    exact g.sh 6 (by decide)
  have c1 : (w.alloc (.cells #[.int .i64 0, .int .i64 0, .int .i64 0] 141)).cell? ⟨13, 7, none⟩ = some (.int .i64 (-1074)) := by
    rw [World.cell?_alloc_lt _ _ _ (by have := g.le; have := g.lt; show 13 < _; omega)]
    exact g.sh 7 (by decide)
  have c2 : (w.alloc (.cells #[.int .i64 0, .int .i64 0, .int .i64 0] 141)).cell? ⟨13, 8, none⟩ = some (.int .i64 11) := by
    rw [World.cell?_alloc_lt _ _ _ (by have := g.le; have := g.lt; show 13 < _; omega)]
    exact g.sh 8 (by decide)
  clear g
  go_enter Tryz.func67, Tryz.ntmps67
  go_wp2
  exact ret_sh rfl rfl rfl (sh_new _ _ _ _ _).1 (sh_new _ _ _ _ _).2.1 (sh_new _ _ _ _ _).2.2 ⟨rfl, (Keep.refl _ _).alloc _⟩
set_option maxRecDepth 100000 in
theorem ssign64_ok (w : World) : Calls Tryz.prog 82 #[.agg #[.int .i64 52, .int .i64 (-1074), .int .i64 11]] w fun e w' => e = .returned (.int .u64 9223372036854775808) ∧ Keep nob w w' := by
  go_enter Tryz.func82, Tryz.ntmps82
  go_wp2
  go_ret
  exact ⟨rfl, (Keep.refl _ _).alloc _⟩
set_option maxRecDepth 100000 in
theorem sinf64_ok (w : World) : Calls Tryz.prog 71 #[.agg #[.int .i64 52, .int .i64 (-1074), .int .i64 11]] w fun e w' => e = .returned (.int .u64 9218868437227405312) ∧ Keep nob w w' := by
  obtain ⟨h0, h1, h2⟩ := sh_new w (.int .i64 52) (.int .i64 (-1074)) (.int .i64 11) 141
  obtain ⟨w0, HW0⟩ : ∃ w0, Hid (w.alloc (.cells #[.int .i64 52, .int .i64 (-1074), .int .i64 11] 141) = w0) := ⟨_, Lib.hid rfl⟩
  have HK0 : Hid (Keep nob w w0) := by unfold Hid; rw [← HW0.out]; exact (Keep.refl _ _).alloc _
  rw [HW0.out] at h0 h1 h2
  obtain ⟨b0, HB0⟩ : ∃ b0, Hid (w.heap.size = b0) := ⟨_, Lib.hid rfl⟩
  rw [HB0.out] at h0 h1 h2
  have HX : Hid (∀ w', Kept w0 w' → w'.cell? ⟨b0, 0, none⟩ = some (.int .i64 52) ∧ w'.cell? ⟨b0, 1, none⟩ = some (.int .i64 (-1074)) ∧ w'.cell? ⟨b0, 2, none⟩ = some (.int .i64 11)) := Lib.hid (fun w' hk => ⟨hk.cell h0 (fun h => h), hk.cell h1 (fun h => h), hk.cell h2 (fun h => h)⟩)
  have HSG := Lib.hid ssign64_ok
  clear h0 h1 h2
  go_enter Tryz.func71, Tryz.ntmps71
  go_upto_region 1 with (fail)
  rw [HW0.out, HB0.out]
  refine wp_region_kept (by kernel_rfl) (by kernel_rfl) (QV.out ?_)
  repeat (first
    | (refine kq_skip (by rfl) (fun K hK => ?_); go_simp; refine hK _ ?_; clear hK K)
    | (refine kq_want (by rfl) (fun K hK => ?_); first
        | (refine BigFrame.quiet_move _ rfl ?_; go_simp; refine hK _ ?_; clear hK K)
        | (refine kq_still ?_ (fun w' hw' => ?_) ?_; rotate_left; (obtain ⟨c0, c1, c2⟩ := HX.out w' hw'; go_simp; first | done | exact rfl); go_simp; refine hK _ ?_; clear hK K)
        | (go_simp; apply Exists.intro; refine ⟨fun w' hw' => ?_, hK _ ?_⟩; (first | (go_at_call 82; refine (HSG.out w').mono ?_)); rintro e w'' ⟨rfl, hk''⟩; exact ⟨rfl, hw'.then_ hk''⟩; clear hK K)))
  refine ⟨wpQuiet_nil ?_⟩
  intro w9 hk9
  go_wp2
  go_ret
  exact ⟨rfl, HK0.out.then_ hk9⟩
set_option maxRecDepth 100000 in
theorem ssign32_ok (w : World) : Calls Tryz.prog 82 #[.agg #[.int .i64 23, .int .i64 (-149), .int .i64 8]] w fun e w' => e = .returned (.int .u64 2147483648) ∧ Keep nob w w' := by
  go_enter Tryz.func82, Tryz.ntmps82
  go_wp2
  go_ret
  exact ⟨rfl, (Keep.refl _ _).alloc _⟩
set_option maxRecDepth 100000 in
theorem sinf32_ok (w : World) : Calls Tryz.prog 71 #[.agg #[.int .i64 23, .int .i64 (-149), .int .i64 8]] w fun e w' => e = .returned (.int .u64 2139095040) ∧ Keep nob w w' := by
  obtain ⟨h0, h1, h2⟩ := sh_new w (.int .i64 23) (.int .i64 (-149)) (.int .i64 8) 141
  obtain ⟨w0, HW0⟩ : ∃ w0, Hid (w.alloc (.cells #[.int .i64 23, .int .i64 (-149), .int .i64 8] 141) = w0) := ⟨_, Lib.hid rfl⟩
  have HK0 : Hid (Keep nob w w0) := by unfold Hid; rw [← HW0.out]; exact (Keep.refl _ _).alloc _
  rw [HW0.out] at h0 h1 h2
  obtain ⟨b0, HB0⟩ : ∃ b0, Hid (w.heap.size = b0) := ⟨_, Lib.hid rfl⟩
  rw [HB0.out] at h0 h1 h2
  have HX : Hid (∀ w', Kept w0 w' → w'.cell? ⟨b0, 0, none⟩ = some (.int .i64 23) ∧ w'.cell? ⟨b0, 1, none⟩ = some (.int .i64 (-149)) ∧ w'.cell? ⟨b0, 2, none⟩ = some (.int .i64 8)) := Lib.hid (fun w' hk => ⟨hk.cell h0 (fun h => h), hk.cell h1 (fun h => h), hk.cell h2 (fun h => h)⟩)
  have HSG := Lib.hid ssign32_ok
  clear h0 h1 h2
  go_enter Tryz.func71, Tryz.ntmps71
  go_upto_region 1 with (fail)
  rw [HW0.out, HB0.out]
  refine wp_region_kept (by kernel_rfl) (by kernel_rfl) (QV.out ?_)
  repeat (first
    | (refine kq_skip (by rfl) (fun K hK => ?_); go_simp; refine hK _ ?_; clear hK K)
    | (refine kq_want (by rfl) (fun K hK => ?_); first
        | (refine BigFrame.quiet_move _ rfl ?_; go_simp; refine hK _ ?_; clear hK K)
        | (refine kq_still ?_ (fun w' hw' => ?_) ?_; rotate_left; (obtain ⟨c0, c1, c2⟩ := HX.out w' hw'; go_simp; first | done | exact rfl); go_simp; refine hK _ ?_; clear hK K)
        | (go_simp; apply Exists.intro; refine ⟨fun w' hw' => ?_, hK _ ?_⟩; (first | (go_at_call 82; refine (HSG.out w').mono ?_)); rintro e w'' ⟨rfl, hk''⟩; exact ⟨rfl, hw'.then_ hk''⟩; clear hK K)))
  refine ⟨wpQuiet_nil ?_⟩
  intro w9 hk9
  go_wp2
  go_ret
  exact ⟨rfl, HK0.out.then_ hk9⟩
set_option maxRecDepth 100000 in
theorem snan64_ok (w : World) : Calls Tryz.prog 68 #[.agg #[.int .i64 52, .int .i64 (-1074), .int .i64 11]] w fun e w' => e = .returned (.int .u64 9221120237041090560) ∧ Keep nob w w' := by
  obtain ⟨h0, h1, h2⟩ := sh_new w (.int .i64 52) (.int .i64 (-1074)) (.int .i64 11) 141
  obtain ⟨w0, HW0⟩ : ∃ w0, Hid (w.alloc (.cells #[.int .i64 52, .int .i64 (-1074), .int .i64 11] 141) = w0) := ⟨_, Lib.hid rfl⟩
  have HK0 : Hid (Keep nob w w0) := by unfold Hid; rw [← HW0.out]; exact (Keep.refl _ _).alloc _
  rw [HW0.out] at h0 h1 h2
  obtain ⟨b0, HB0⟩ : ∃ b0, Hid (w.heap.size = b0) := ⟨_, Lib.hid rfl⟩
  rw [HB0.out] at h0 h1 h2
  have HX : Hid (∀ w', Kept w0 w' → w'.cell? ⟨b0, 0, none⟩ = some (.int .i64 52) ∧ w'.cell? ⟨b0, 1, none⟩ = some (.int .i64 (-1074)) ∧ w'.cell? ⟨b0, 2, none⟩ = some (.int .i64 11)) := Lib.hid (fun w' hk => ⟨hk.cell h0 (fun h => h), hk.cell h1 (fun h => h), hk.cell h2 (fun h => h)⟩)
  have HSG := Lib.hid sinf64_ok
  clear h0 h1 h2
  go_enter Tryz.func68, Tryz.ntmps68
  go_upto_region 1 with (fail)
  rw [HW0.out, HB0.out]
  refine wp_region_kept (by kernel_rfl) (by kernel_rfl) (QV.out ?_)
  repeat (first
    | (refine kq_skip (by rfl) (fun K hK => ?_); go_simp; refine hK _ ?_; clear hK K)
    | (refine kq_want (by rfl) (fun K hK => ?_); first
        | (refine BigFrame.quiet_move _ rfl ?_; go_simp; refine hK _ ?_; clear hK K)
        | (refine kq_still ?_ (fun w' hw' => ?_) ?_; rotate_left; (obtain ⟨c0, c1, c2⟩ := HX.out w' hw'; go_simp; first | done | exact rfl); go_simp; refine hK _ ?_; clear hK K)
        | (go_simp; apply Exists.intro; refine ⟨fun w' hw' => ?_, hK _ ?_⟩; (first | (go_at_call 71; refine (HSG.out w').mono ?_)); rintro e w'' ⟨rfl, hk''⟩; exact ⟨rfl, hw'.then_ hk''⟩; clear hK K)))
  refine ⟨wpQuiet_nil ?_⟩
  intro w9 hk9
  go_wp2
  go_ret
  exact ⟨rfl, HK0.out.then_ hk9⟩
end Go.Proofs.YteekndchkgdccaaGreatDoor

/- The order of values. Plain Lean. -/
namespace Go.Proofs.YteekndchkgdccaaGreatDoor

def cmpI (a b : Int) : Int := if a < b then -1 else if b < a then 1 else 0
/-- the first that is not 0 -/
def orI (a b : Int) : Int := if a = 0 then b else a
/-- lists of one length, the highest limb first -/
def cmpRev : List Nat → List Nat → Int
  | x :: l, y :: l' => if x = y then cmpRev l l' else cmpI x y
  | _, _ => 0
/-- numbers without noughts at their end -/
def cmpL (a b : List Nat) : Int := if a.length = b.length then cmpRev a.reverse b.reverse else cmpI a.length b.length
def cmpW (neg : Bool) (a : List Nat) (neg' : Bool) (b : List Nat) : Int :=
  if sgn neg (cutN a a.length) < sgn neg' (cutN b b.length) then -1 else if sgn neg' (cutN b b.length) < sgn neg (cutN a a.length) then 1 else sgn neg (cutN a a.length) * cmpL (cutL a) (cutL b)
/-- patterns of 64 bits -/
def total64 (x y : Nat) : Int :=
  if 9223372036854775808 ≤ x then (if 9223372036854775808 ≤ y then cmpI y x else -1) else if 9223372036854775808 ≤ y then 1 else cmpI x y
/-- texts, byte by byte -/
def lexN : List Nat → List Nat → Int
  | [], [] => 0
  | [], _ :: _ => -1
  | _ :: _, [] => 1
  | x :: l, y :: l' => if x = y then lexN l l' else cmpI x y
mutual
def cmpV : V → V → Int
  | .mk k n neg mag bits ext text kids, .mk k' n' neg' mag' bits' ext' text' kids' =>
    orI (orI (cmpI k k') (orI (cmpI n n') (orI (cmpI ext ext') (orI (cmpW neg mag neg' mag') (orI (total64 bits bits') (lexN (bl text) (bl text'))))))) (cmpVL kids kids')
def cmpVL : List V → List V → Int
  | [], [] => 0
  | [], _ :: _ => -1
  | _ :: _, [] => 1
  | a :: l, b :: l' => orI (cmpV a b) (cmpVL l l')
end
mutual
/-- lists of a size that memory has -/
def Sm : V → Prop
  | .mk _ _ _ mag bits _ _ kids => mag.length ≤ 1000000000 ∧ kids.length ≤ 1000000000 ∧ bits < 18446744073709551616 ∧ SmL kids
def SmL : List V → Prop
  | [] => True
  | v :: l => Sm v ∧ SmL l
end
theorem SmL.get : ∀ {l : List V} (_ : SmL l) (i : Nat) (h : i < l.length), Sm l[i]
  | _ :: _, h, 0, _ => h.1
  | _ :: _, h, i + 1, h1 => SmL.get h.2 i (by simpa using h1)
  | [], _, _, h1 => absurd h1 (by simp)
theorem orI_zero (b : Int) : orI 0 b = b := rfl
theorem orI_ne {a : Int} (b : Int) (h : a ≠ 0) : orI a b = a := if_neg h
/-- the lists from a place on -/
theorem cmpVL_step {l l' : List V} {i : Nat} (h : i < l.length) (h' : i < l'.length) : cmpVL (l.drop i) (l'.drop i) = orI (cmpV l[i] l'[i]) (cmpVL (l.drop (i + 1)) (l'.drop (i + 1))) := by
  rw [List.drop_eq_getElem_cons h, List.drop_eq_getElem_cons h', cmpVL]
theorem cmpVL_more {l l' : List V} {i : Nat} (h : i < l.length) (h' : l'.length ≤ i) : cmpVL (l.drop i) (l'.drop i) = 1 := by
  rw [List.drop_eq_getElem_cons h, List.drop_eq_nil_of_le h', cmpVL]
theorem cmpVL_less {l l' : List V} {i : Nat} (h : l.length ≤ i) (h' : i < l'.length) : cmpVL (l.drop i) (l'.drop i) = -1 := by
  rw [List.drop_eq_getElem_cons h', List.drop_eq_nil_of_le h, cmpVL]
theorem cmpVL_end {l l' : List V} {i : Nat} (h : l.length ≤ i) (h' : l'.length ≤ i) : cmpVL (l.drop i) (l'.drop i) = 0 := by
  rw [List.drop_eq_nil_of_le h, List.drop_eq_nil_of_le h', cmpVL]
theorem cmpI_cases (a b : Int) : cmpI a b = -1 ∨ cmpI a b = 0 ∨ cmpI a b = 1 := by
  unfold cmpI
  split
  · exact .inl rfl
  · split
    · exact .inr (.inr rfl)
    · exact .inr (.inl rfl)
theorem sgn_cases (g : Bool) (n : Nat) : sgn g n = -1 ∨ sgn g n = 0 ∨ sgn g n = 1 := by
  unfold sgn
  split
  · exact .inr (.inl rfl)
  · cases g
    · exact .inr (.inr rfl)
    · exact .inl rfl
theorem cmpRev_cases : ∀ (a b : List Nat), cmpRev a b = -1 ∨ cmpRev a b = 0 ∨ cmpRev a b = 1
  | x :: l, y :: l' => by
    unfold cmpRev
    split
    · exact cmpRev_cases l l'
    · exact cmpI_cases _ _
  | [], [] => .inr (.inl rfl)
  | [], _ :: _ => .inr (.inl rfl)
  | _ :: _, [] => .inr (.inl rfl)
theorem cmpL_cases (a b : List Nat) : cmpL a b = -1 ∨ cmpL a b = 0 ∨ cmpL a b = 1 := by
  unfold cmpL
  split
  · exact cmpRev_cases _ _
  · exact cmpI_cases _ _
theorem cmpW_cases (g : Bool) (a : List Nat) (g' : Bool) (b : List Nat) : cmpW g a g' b = -1 ∨ cmpW g a g' b = 0 ∨ cmpW g a g' b = 1 := by
  unfold cmpW
  split
  · exact .inl rfl
  · split
    · exact .inr (.inr rfl)
    · rcases sgn_cases g (cutN a a.length) with h | h | h <;> rcases cmpL_cases (cutL a) (cutL b) with h2 | h2 | h2 <;> rw [h, h2] <;> simp
end Go.Proofs.YteekndchkgdccaaGreatDoor

/- ieee: patterns of bits, in plain Lean. -/
namespace Go.Proofs.YteekndchkgdccaaGreatDoor

theorem and_top (k x : Nat) (h : x < 2 ^ (k + 1)) : x &&& 2 ^ k = if 2 ^ k ≤ x then 2 ^ k else 0 := by
  have hp : 0 < 2 ^ k := Nat.two_pow_pos k
  rw [Nat.pow_succ] at h
  have hb : x.testBit k = decide (2 ^ k ≤ x) := by
    rw [Nat.testBit_eq_decide_div_mod_eq]
    by_cases hx : 2 ^ k ≤ x
    · have h1 : x / 2 ^ k = 1 := by
        apply Nat.div_eq_of_lt_le
        · omega
        · omega
      rw [h1]
      simp [hx]
    · rw [Nat.div_eq_of_lt (by omega)]
      simp [hx]
  apply Nat.eq_of_testBit_eq
  intro i
  rw [Nat.testBit_and, Nat.testBit_two_pow]
  by_cases he : k = i
  · subst he
    rw [hb]
    by_cases hx : 2 ^ k ≤ x
    · simp [hx]
    · simp [hx]
  · by_cases hx : 2 ^ k ≤ x
    · simp [hx, he]
    · simp [hx, he]
theorem andNot_top (k x : Nat) (h : x < 2 ^ (k + 1)) (hk : k < 64) : x &&& (2 ^ 64 - (2 ^ k + 1)) = x % 2 ^ k := by
  apply Nat.eq_of_testBit_eq
  intro i
  rw [Nat.testBit_and, Nat.testBit_two_pow_sub_succ (Nat.pow_lt_pow_right (by decide) hk), Nat.testBit_mod_two_pow, Nat.testBit_two_pow]
  by_cases hi : i < k
  · have h1 : ¬ k = i := by omega
    have h2 : i < 64 := by omega
    simp [hi, h1, h2]
  · by_cases he : k = i
    · subst he; simp
    · have h3 : x.testBit i = false := Nat.testBit_lt_two_pow (Nat.lt_of_lt_of_le h (Nat.pow_le_pow_right (by decide) (by omega)))
      simp [h3]
theorem or_top (k x : Nat) (h : x < 2 ^ k) : x ||| 2 ^ k = x + 2 ^ k := by
  have := Nat.two_pow_add_eq_or_of_lt h 1
  rw [Nat.mul_one] at this
  rw [Nat.or_comm, ← this, Nat.add_comm]

/-- the parts of a finite pattern: is it below 0, the odd m and the e of m times 2 to the e -/
def partsN (F : Nat) (L : Int) (X : Nat) (x : Nat) : Option (Bool × Nat × Int) :=
  let size := x % 2 ^ (F + X)
  if 2 ^ (F + X) - 2 ^ F ≤ size then none
  else if size = 0 then some (decide (2 ^ (F + X) ≤ x), 0, 0)
  else
    let m := if 0 < size / 2 ^ F then size % 2 ^ F + 2 ^ F else size
    let e := if 0 < size / 2 ^ F then L + (((size / 2 ^ F : Nat) : Int) - 1) else L
    some (decide (2 ^ (F + X) ≤ x), m / 2 ^ Lib.ctz 64 m, e + (Lib.ctz 64 m : Nat))
/-- a size with a sign, 64 bits -/
def signed64N (neg : Bool) (size : Nat) : Nat := if neg then size + 9223372036854775808 else size
/-- the pattern of 64 bits of m times 2 to the e, m below 2 to the 53, e not below the least: exact -/
def exact64 (neg : Bool) (m : Nat) (e : Int) : Nat :=
  if m = 0 then signed64N neg 0
  else
    let last : Int := max ((Lib.bitLen m : Int) - 53 + e) (-1074)
    if 2046 ≤ last + 1074 then signed64N neg 9218868437227405312
    else
      let kept := m * 2 ^ (e - last).toNat
      if kept / 4503599627370496 = 0 then signed64N neg kept else signed64N neg ((last + 1074).toNat * 4503599627370496 + kept)
/-- the whole number that a pattern is -/
def intN (F : Nat) (L : Int) (X : Nat) (x : Nat) : Option (Bool × Nat) :=
  match partsN F L X x with
  | none => none
  | some (neg, m, e) => if e < 0 then none else some (neg && decide (0 < m), m * 2 ^ e.toNat)
/-- as a pattern of 64 bits -/
def to64N (F : Nat) (L : Int) (X : Nat) (x : Nat) : Nat :=
  match partsN F L X x with
  | none => if x % 2 ^ (F + X) = 2 ^ (F + X) - 2 ^ F then signed64N (decide (2 ^ (F + X) ≤ x)) 9218868437227405312 else 9221120237041090560
  | some (neg, m, e) => exact64 neg m e
/-- as a value -/
def ofV (F : Nat) (L : Int) (X : Nat) (x : Nat) : V :=
  match intN F L X x with
  | some (neg, n) => V.int neg (numL n)
  | none => V.flo (to64N F L X x)
end Go.Proofs.YteekndchkgdccaaGreatDoor

/- ieee: a pattern's sign and size. -/
namespace Go.Proofs.YteekndchkgdccaaGreatDoor
open Go.RowKit

theorem and_s64 (x : Nat) (h : x < 18446744073709551616) : bits .and .u64 (x : Int) 9223372036854775808 = if 9223372036854775808 ≤ x then 9223372036854775808 else 0 := by
  have h1 := u64_and_nat x 9223372036854775808 (by omega) (by decide)
  have h2 : x &&& 9223372036854775808 = if 9223372036854775808 ≤ x then 9223372036854775808 else 0 := and_top 63 x h
  rw [show ((9223372036854775808 : Nat) : Int) = 9223372036854775808 from rfl, h2] at h1
  rw [h1]
  split <;> rfl
theorem andNot_s64 (x : Nat) (h : x < 18446744073709551616) : bits .andNot .u64 (x : Int) 9223372036854775808 = ((x % 9223372036854775808 : Nat) : Int) := by
  have h1 := u64_andNot_nat x 9223372036854775808 (by omega) (by decide)
  have h2 : x &&& (18446744073709551615 - 9223372036854775808) = x % 9223372036854775808 := andNot_top 63 x h (by decide)
  rw [show ((9223372036854775808 : Nat) : Int) = 9223372036854775808 from rfl, h2] at h1
  exact h1
set_option maxRecDepth 100000 in
theorem split64_ok (x B : Nat) (hx : x < 18446744073709551616) (sa : Nat → Addr) (w : World) (g : GL B sa w) : Calls Tryz.prog 69 #[.int .u64 (x : Int)] w fun e w' => e = .returned (.tuple #[.bool (decide (9223372036854775808 ≤ x)), .int .u64 ((x % 9223372036854775808 : Nat) : Int)]) ∧ Keep nob w w' := by
  have hof := of64_ok B sa w g
  have HSG := Lib.hid ssign64_ok
  have ha := and_s64 x hx
  have hn := andNot_s64 x hx
  have i1 : IntKind.u64.wrap (x : Int) = (x : Int) := by rw [IntKind.wrap_u64]; omega
  unfold shV at hof
  clear g hx
  by_cases h : 9223372036854775808 ≤ x
  · rw [if_pos h] at ha
    go_enter Tryz.func69, Tryz.ntmps69
    go_wp2_with (first | (go_at_call 67; go_must (refine hof.mono ?_); rintro e w1 ⟨rfl, hk1⟩) | (go_at_call 82; go_must (refine (HSG.out _).mono ?_); rintro e w2 ⟨rfl, hk2⟩))
    go_ret2
    exact ⟨by simp [h], hk1.then_ hk2⟩
  · rw [if_neg h] at ha
    go_enter Tryz.func69, Tryz.ntmps69
    go_wp2_with (first | (go_at_call 67; go_must (refine hof.mono ?_); rintro e w1 ⟨rfl, hk1⟩) | (go_at_call 82; go_must (refine (HSG.out _).mono ?_); rintro e w2 ⟨rfl, hk2⟩))
    go_ret2
    exact ⟨by simp [h], hk1.then_ hk2⟩
theorem and_s32 (x : Nat) (h : x < 4294967296) : bits .and .u64 (x : Int) 2147483648 = if 2147483648 ≤ x then 2147483648 else 0 := by
  have h1 := u64_and_nat x 2147483648 (by omega) (by decide)
  have h2 : x &&& 2147483648 = if 2147483648 ≤ x then 2147483648 else 0 := and_top 31 x h
  rw [show ((2147483648 : Nat) : Int) = 2147483648 from rfl, h2] at h1
  rw [h1]
  split <;> rfl
theorem andNot_s32 (x : Nat) (h : x < 4294967296) : bits .andNot .u64 (x : Int) 2147483648 = ((x % 2147483648 : Nat) : Int) := by
  have h1 := u64_andNot_nat x 2147483648 (by omega) (by decide)
  have h2 : x &&& (18446744073709551615 - 2147483648) = x % 2147483648 := andNot_top 31 x h (by decide)
  rw [show ((2147483648 : Nat) : Int) = 2147483648 from rfl, h2] at h1
  exact h1
set_option maxRecDepth 100000 in
theorem isigned64_ok (neg : Bool) (x B : Nat) (hx : x < 9223372036854775808) (sa : Nat → Addr) (w : World) (g : GL B sa w) : Calls Tryz.prog 70 #[.bool neg, .int .u64 (x : Int)] w fun e w' => e = .returned (.int .u64 ((signed64N neg x : Nat) : Int)) ∧ Keep nob w w' := by
  cases neg
  · go_enter Tryz.func70, Tryz.ntmps70
    go_wp2
    go_ret
    exact ⟨rfl, Keep.refl _ _⟩
  · have hof := of64_ok B sa w g
    have HSG := Lib.hid ssign64_ok
    have ho : bits .or .u64 (x : Int) 9223372036854775808 = ((signed64N true x : Nat) : Int) := by
      have h1 := u64_or_nat x 9223372036854775808 (by omega) (by decide)
      have h2 : x ||| 9223372036854775808 = x + 9223372036854775808 := or_top 63 x hx
      rw [show ((9223372036854775808 : Nat) : Int) = 9223372036854775808 from rfl, h2] at h1
      exact h1
    unfold shV at hof
    clear g hx
    go_enter Tryz.func70, Tryz.ntmps70
    go_wp2_with (first | (go_at_call 67; go_must (refine hof.mono ?_); rintro e w1 ⟨rfl, hk1⟩) | (go_at_call 82; go_must (refine (HSG.out _).mono ?_); rintro e w2 ⟨rfl, hk2⟩))
    go_ret
    exact ⟨rfl, hk1.then_ hk2⟩
end Go.Proofs.YteekndchkgdccaaGreatDoor

/- ieee.Parts. -/
namespace Go.Proofs.YteekndchkgdccaaGreatDoor
open Go.RowKit

def PartsE (x : Option (Bool × Nat × Int)) : Ending := match x with
  | some (neg, m, e) => .returned (.tuple #[.bool neg, .int .u64 (m : Int), .int .i64 e, .bool true])
  | none => .returned (.tuple #[.bool false, .int .u64 0, .int .i64 0, .bool false])
theorem results_tmp4 {fn : Func} {t u v x : Tmp} (h : fn.results = #[.tmp t, .tmp u, .tmp v, .tmp x]) (tmps : Array Value) (P : Program) (w : World) :
    (results fn tmps).run P w = .ok (.tuple #[tmps.getD t undef, tmps.getD u undef, tmps.getD v undef, tmps.getD x undef]) w := by
  simp [results, h]
set_option maxRecDepth 100000 in
theorem parts64_ok (x B : Nat) (hx : x < 18446744073709551616) (sa : Nat → Addr) (w : World) (g : GL B sa w) : Calls Tryz.prog 63 #[.int .u64 (x : Int)] w fun e w' => e = PartsE (partsN 52 (-1074) 11 x) ∧ Keep nob w w' := by
  have hof := of64_ok B sa w g
  have HSPL := Lib.hid (fun (wv : World) (hk : Keep nob w wv) => split64_ok x B hx sa wv (g.keep hk (fun _ h => h.elim)))
  have HTZ := Lib.hid (fun (m : Nat) (hm : m < 18446744073709551616) (wv : World) (hk : Keep nob w wv) => tz64_ok m B hm sa wv (g.keep hk (fun _ h => h.elim)))
  have HINF := Lib.hid sinf64_ok
  unfold shV at hof
  obtain ⟨X, HX⟩ : ∃ X, Hid (partsN 52 (-1074) 11 x = X) := ⟨_, Lib.hid rfl⟩
  rw [HX.out]
  obtain ⟨size, HSZ⟩ : ∃ size, Hid (x % 9223372036854775808 = size) := ⟨_, Lib.hid rfl⟩
  obtain ⟨neg, HNG⟩ : ∃ neg, Hid (decide (9223372036854775808 ≤ x) = neg) := ⟨_, Lib.hid rfl⟩
  have hsz : size < 9223372036854775808 := by rw [← HSZ.out]; exact Nat.mod_lt _ (by decide)
  have HPN : Hid (partsN 52 (-1074) 11 x = if 9218868437227405312 ≤ size then none else if size = 0 then some (neg, 0, 0) else some (neg, (if 0 < size / 4503599627370496 then size % 4503599627370496 + 4503599627370496 else size) / 2 ^ Lib.ctz 64 (if 0 < size / 4503599627370496 then size % 4503599627370496 + 4503599627370496 else size), (if 0 < size / 4503599627370496 then (-1074) + (((size / 4503599627370496 : Nat) : Int) - 1) else (-1074)) + (Lib.ctz 64 (if 0 < size / 4503599627370496 then size % 4503599627370496 + 4503599627370496 else size) : Nat))) := by
    unfold Hid
    rw [← HNG.out, ← HSZ.out]
    rfl
  rw [HX.out] at HPN
  rw [HSZ.out, HNG.out] at HSPL
  clear g hx HX HSZ HNG
  by_cases hA : 9218868437227405312 ≤ size
  · rw [if_pos hA] at HPN
    have hAi : (size : Int) ≥ 9218868437227405312 := by omega
    go_enter Tryz.func63, Tryz.ntmps63
    go_wp2_with (first | (go_at_call 67; go_must (refine hof.mono ?_); rintro e w1 ⟨rfl, hk1⟩; have HK1 := Lib.hid (hk1.alloc (.cells #[.int .i64 52, .int .i64 (-1074), .int .i64 11] 141)); clear hk1) | (go_at_call 69; go_must (refine (HSPL.out _ HK1.out).mono ?_); rintro e w2 ⟨rfl, hk2⟩; have c0 := hk2.cell (sh_new w1 (.int .i64 52) (.int .i64 (-1074)) (.int .i64 11) 141).1 (fun h => h); have c1 := hk2.cell (sh_new w1 (.int .i64 52) (.int .i64 (-1074)) (.int .i64 11) 141).2.1 (fun h => h); have c2 := hk2.cell (sh_new w1 (.int .i64 52) (.int .i64 (-1074)) (.int .i64 11) 141).2.2 (fun h => h); have HK2 := Lib.hid (HK1.out.then_ hk2); clear hk2) | (go_at_call 71; go_must (refine (HINF.out _).mono ?_); rintro e w3 ⟨rfl, hk3⟩; have c0 := hk3.cell c0 (fun h => h); have c1 := hk3.cell c1 (fun h => h); have c2 := hk3.cell c2 (fun h => h); have HK3 := Lib.hid (HK2.out.then_ hk3); clear hk3) | (go_at_call 80; go_must (refine (HTZM.out _ DREW).mono ?_); rintro e w5 ⟨rfl, rfl⟩))
    refine bodyPost_ret (results_tmp4 rfl _ _ _) rfl ?_
    rw [HPN.out]
    exact ⟨rfl, HK3.out⟩
  rw [if_neg hA] at HPN
  have hAi : decide ((size : Int) ≥ 9218868437227405312) = false := by rw [decide_eq_false_iff_not]; omega
  by_cases hB : size = 0
  · subst hB
    rw [if_pos rfl] at HPN
    simp only [Int.natCast_zero] at hAi HSPL
    clear hAi
    go_enter Tryz.func63, Tryz.ntmps63
    go_wp2_with (first | (go_at_call 67; go_must (refine hof.mono ?_); rintro e w1 ⟨rfl, hk1⟩; have HK1 := Lib.hid (hk1.alloc (.cells #[.int .i64 52, .int .i64 (-1074), .int .i64 11] 141)); clear hk1) | (go_at_call 69; go_must (refine (HSPL.out _ HK1.out).mono ?_); rintro e w2 ⟨rfl, hk2⟩; have c0 := hk2.cell (sh_new w1 (.int .i64 52) (.int .i64 (-1074)) (.int .i64 11) 141).1 (fun h => h); have c1 := hk2.cell (sh_new w1 (.int .i64 52) (.int .i64 (-1074)) (.int .i64 11) 141).2.1 (fun h => h); have c2 := hk2.cell (sh_new w1 (.int .i64 52) (.int .i64 (-1074)) (.int .i64 11) 141).2.2 (fun h => h); have HK2 := Lib.hid (HK1.out.then_ hk2); clear hk2) | (go_at_call 71; go_must (refine (HINF.out _).mono ?_); rintro e w3 ⟨rfl, hk3⟩; have c0 := hk3.cell c0 (fun h => h); have c1 := hk3.cell c1 (fun h => h); have c2 := hk3.cell c2 (fun h => h); have HK3 := Lib.hid (HK2.out.then_ hk3); clear hk3) | (go_at_call 80; go_must (refine (HTZM.out _ DREW).mono ?_); rintro e w5 ⟨rfl, rfl⟩))
    refine bodyPost_ret (results_tmp4 rfl _ _ _) rfl ?_
    rw [HPN.out]
    exact ⟨rfl, HK3.out⟩
  rw [if_neg hB] at HPN
  have hBi : ((size : Int) == 0) = false := by rw [beq_eq_false_iff_ne]; omega
  obtain ⟨kk, HKK⟩ : ∃ kk, Hid (size / 4503599627370496 = kk) := ⟨_, Lib.hid rfl⟩
  have i1 : (size : Int) / 4503599627370496 = (kk : Int) := by rw [← HKK.out]; omega
  rw [HKK.out] at HPN
  obtain ⟨m, HM⟩ : ∃ m, Hid ((if 0 < kk then size % 4503599627370496 + 4503599627370496 else size) = m) := ⟨_, Lib.hid rfl⟩
  obtain ⟨e0, HE0⟩ : ∃ e0 : Int, Hid ((if 0 < kk then (-1074) + ((kk : Int) - 1) else (-1074)) = e0) := ⟨_, Lib.hid rfl⟩
  rw [HM.out, HE0.out] at HPN
  have hmlt : m < 9007199254740992 := by
    have := HKK.out
    rw [← HM.out]
    split <;> omega
  have hm0 : 0 < m := by
    rw [← HM.out]
    split <;> omega
  have he0 : -2000 ≤ e0 ∧ e0 ≤ 3000 := by
    have := HKK.out
    rw [← HE0.out]
    split <;> omega
  have HM64 : Hid (m < 18446744073709551616) := Lib.hid (by omega)
  obtain ⟨tz, HTT⟩ : ∃ tz, Hid (Lib.ctz 64 m = tz) := ⟨_, Lib.hid rfl⟩
  have htz : tz < 64 := by
    obtain ⟨_, hk⟩ := Lib.lowest_bit 64 m (by omega) (by omega)
    rw [← HTT.out]; exact hk
  rw [HTT.out] at HPN
  have HTZM := Lib.hid (HTZ.out m HM64.out)
  rw [HTT.out] at HTZM
  obtain ⟨mo, HMO⟩ : ∃ mo, Hid (m / 2 ^ tz = mo) := ⟨_, Lib.hid rfl⟩
  rw [HMO.out] at HPN
  have i10 : (m : Int) / 2 ^ tz = (mo : Int) := by rw [← HMO.out, Int.natCast_ediv, Int.natCast_pow]; rfl
  have i9 : IntKind.i64.wrap (e0 + (tz : Int)) = e0 + (tz : Int) := by rw [IntWalk.i64_left, IntWalk.wrap64_in _ ⟨by omega, by omega⟩]
  clear hm0 hB HTZ
  by_cases hC : 0 < kk
  · rw [if_pos hC] at HM HE0
    have hCi : decide ((kk : Int) > 0) = true := by rw [decide_eq_true_iff]; omega
    have hkk : kk < 4096 := by rw [← HKK.out]; omega
    obtain ⟨r, HR⟩ : ∃ r, Hid (size % 4503599627370496 = r) := ⟨_, Lib.hid rfl⟩
    have i2 : bits .and .u64 (size : Int) 4503599627370495 = (r : Int) := by
      have h1 := u64_and_nat size 4503599627370495 (by omega) (by decide)
      have h2 : size &&& 4503599627370495 = size % 4503599627370496 := Nat.and_two_pow_sub_one_eq_mod size 52
      rw [show ((4503599627370495 : Nat) : Int) = 4503599627370495 from rfl, h2, HR.out] at h1
      exact h1
    rw [HR.out] at HM
    have hr : r < 4503599627370496 := by rw [← HR.out]; exact Nat.mod_lt _ (by decide)
    have i3 : bits .or .u64 (r : Int) 4503599627370496 = (m : Int) := by
      have h1 := u64_or_nat r 4503599627370496 (by omega) (by decide)
      have h2 : r ||| 4503599627370496 = r + 4503599627370496 := or_top 52 r hr
      rw [show ((4503599627370496 : Nat) : Int) = 4503599627370496 from rfl, h2, HM.out] at h1
      exact h1
    have i4 : IntKind.i64.wrap (kk : Int) = (kk : Int) := by rw [IntWalk.i64_left, IntWalk.wrap64_in _ ⟨by omega, by omega⟩]
    have i5 : IntKind.i64.wrap ((kk : Int) - 1) = (kk : Int) - 1 := by rw [IntWalk.i64_left, IntWalk.wrap64_in _ ⟨by omega, by omega⟩]
    have i6 : IntKind.i64.wrap ((-1074) + ((kk : Int) - 1)) = e0 := by rw [HE0.out, IntWalk.i64_left, IntWalk.wrap64_in _ ⟨by omega, by omega⟩]
    go_enter Tryz.func63, Tryz.ntmps63
    go_upto_region 7 with (first | (go_at_call 67; go_must (refine hof.mono ?_); rintro e w1 ⟨rfl, hk1⟩; have HK1 := Lib.hid (hk1.alloc (.cells #[.int .i64 52, .int .i64 (-1074), .int .i64 11] 141)); clear hk1) | (go_at_call 69; go_must (refine (HSPL.out _ HK1.out).mono ?_); rintro e w2 ⟨rfl, hk2⟩; have c0 := hk2.cell (sh_new w1 (.int .i64 52) (.int .i64 (-1074)) (.int .i64 11) 141).1 (fun h => h); have c1 := hk2.cell (sh_new w1 (.int .i64 52) (.int .i64 (-1074)) (.int .i64 11) 141).2.1 (fun h => h); have c2 := hk2.cell (sh_new w1 (.int .i64 52) (.int .i64 (-1074)) (.int .i64 11) 141).2.2 (fun h => h); have HK2 := Lib.hid (HK1.out.then_ hk2); clear hk2) | (go_at_call 71; go_must (refine (HINF.out _).mono ?_); rintro e w3 ⟨rfl, hk3⟩; have c0 := hk3.cell c0 (fun h => h); have c1 := hk3.cell c1 (fun h => h); have c2 := hk3.cell c2 (fun h => h); have HK3 := Lib.hid (HK2.out.then_ hk3); clear hk3) | (go_at_call 80; go_must (refine (HTZM.out _ DREW).mono ?_); rintro e w5 ⟨rfl, rfl⟩))
    go_quiet (fail)
    go_upto_region 10 with (fail)
    go_quiet (fail)
    go_upto_region 13 with (first | (go_at_call 67; go_must (refine hof.mono ?_); rintro e w1 ⟨rfl, hk1⟩; have HK1 := Lib.hid (hk1.alloc (.cells #[.int .i64 52, .int .i64 (-1074), .int .i64 11] 141)); clear hk1) | (go_at_call 69; go_must (refine (HSPL.out _ HK1.out).mono ?_); rintro e w2 ⟨rfl, hk2⟩; have c0 := hk2.cell (sh_new w1 (.int .i64 52) (.int .i64 (-1074)) (.int .i64 11) 141).1 (fun h => h); have c1 := hk2.cell (sh_new w1 (.int .i64 52) (.int .i64 (-1074)) (.int .i64 11) 141).2.1 (fun h => h); have c2 := hk2.cell (sh_new w1 (.int .i64 52) (.int .i64 (-1074)) (.int .i64 11) 141).2.2 (fun h => h); have HK2 := Lib.hid (HK1.out.then_ hk2); clear hk2) | (go_at_call 71; go_must (refine (HINF.out _).mono ?_); rintro e w3 ⟨rfl, hk3⟩; have c0 := hk3.cell c0 (fun h => h); have c1 := hk3.cell c1 (fun h => h); have c2 := hk3.cell c2 (fun h => h); have HK3 := Lib.hid (HK2.out.then_ hk3); clear hk3) | (go_at_call 80; go_must (refine (HTZM.out _ (HK3.out.drewN _)).mono ?_); rintro e w5 ⟨rfl, rfl⟩))
    go_quiet (fail)
    go_wp2
    refine bodyPost_ret (results_tmp4 rfl _ _ _) rfl ?_
    rw [HPN.out]
    exact ⟨rfl, (HK3.out.drewN _).drewN _⟩
  · rw [if_neg hC] at HM HE0
    obtain rfl : kk = 0 := by omega
    have hCi : decide ((0 : Int) > 0) = false := by decide
    simp only [Int.natCast_zero] at i1
    have hsm : size = m := HM.out
    subst hsm
    have i6 : (-1074 : Int) = e0 := HE0.out
    subst i6
    go_enter Tryz.func63, Tryz.ntmps63
    go_upto_region 7 with (first | (go_at_call 67; go_must (refine hof.mono ?_); rintro e w1 ⟨rfl, hk1⟩; have HK1 := Lib.hid (hk1.alloc (.cells #[.int .i64 52, .int .i64 (-1074), .int .i64 11] 141)); clear hk1) | (go_at_call 69; go_must (refine (HSPL.out _ HK1.out).mono ?_); rintro e w2 ⟨rfl, hk2⟩; have c0 := hk2.cell (sh_new w1 (.int .i64 52) (.int .i64 (-1074)) (.int .i64 11) 141).1 (fun h => h); have c1 := hk2.cell (sh_new w1 (.int .i64 52) (.int .i64 (-1074)) (.int .i64 11) 141).2.1 (fun h => h); have c2 := hk2.cell (sh_new w1 (.int .i64 52) (.int .i64 (-1074)) (.int .i64 11) 141).2.2 (fun h => h); have HK2 := Lib.hid (HK1.out.then_ hk2); clear hk2) | (go_at_call 71; go_must (refine (HINF.out _).mono ?_); rintro e w3 ⟨rfl, hk3⟩; have c0 := hk3.cell c0 (fun h => h); have c1 := hk3.cell c1 (fun h => h); have c2 := hk3.cell c2 (fun h => h); have HK3 := Lib.hid (HK2.out.then_ hk3); clear hk3) | (go_at_call 80; go_must (refine (HTZM.out _ DREW).mono ?_); rintro e w5 ⟨rfl, rfl⟩))
    go_quiet (fail)
    go_upto_region 13 with (first | (go_at_call 67; go_must (refine hof.mono ?_); rintro e w1 ⟨rfl, hk1⟩; have HK1 := Lib.hid (hk1.alloc (.cells #[.int .i64 52, .int .i64 (-1074), .int .i64 11] 141)); clear hk1) | (go_at_call 69; go_must (refine (HSPL.out _ HK1.out).mono ?_); rintro e w2 ⟨rfl, hk2⟩; have c0 := hk2.cell (sh_new w1 (.int .i64 52) (.int .i64 (-1074)) (.int .i64 11) 141).1 (fun h => h); have c1 := hk2.cell (sh_new w1 (.int .i64 52) (.int .i64 (-1074)) (.int .i64 11) 141).2.1 (fun h => h); have c2 := hk2.cell (sh_new w1 (.int .i64 52) (.int .i64 (-1074)) (.int .i64 11) 141).2.2 (fun h => h); have HK2 := Lib.hid (HK1.out.then_ hk2); clear hk2) | (go_at_call 71; go_must (refine (HINF.out _).mono ?_); rintro e w3 ⟨rfl, hk3⟩; have c0 := hk3.cell c0 (fun h => h); have c1 := hk3.cell c1 (fun h => h); have c2 := hk3.cell c2 (fun h => h); have HK3 := Lib.hid (HK2.out.then_ hk3); clear hk3) | (go_at_call 80; go_must (refine (HTZM.out _ (HK3.out.drewN _)).mono ?_); rintro e w5 ⟨rfl, rfl⟩))
    go_quiet (fail)
    go_wp2
    refine bodyPost_ret (results_tmp4 rfl _ _ _) rfl ?_
    rw [HPN.out]
    exact ⟨rfl, (HK3.out.drewN _).drewN _⟩
end Go.Proofs.YteekndchkgdccaaGreatDoor

/- Natural numbers as lists of limbs: how many bits; shifted up. Plain Lean. -/
namespace Go.Proofs.YteekndchkgdccaaGreatDoor

/-- how many bits a number has -/
def bitsN (x : Nat) : Nat := if x = 0 then 0 else x.log2 + 1
theorem bitsN_lt (x : Nat) : x < 2 ^ bitsN x := by
  unfold bitsN
  split
  · omega
  · exact Nat.lt_log2_self
theorem bitsN_ge {x : Nat} (h : x ≠ 0) : 2 ^ (bitsN x - 1) ≤ x := by
  unfold bitsN
  rw [if_neg h, Nat.add_sub_cancel]
  exact Nat.log2_self_le h
theorem bitsN_eq {x k : Nat} (h1 : 2 ^ k ≤ x) (h2 : x < 2 ^ (k + 1)) : bitsN x = k + 1 := by
  have h0 : x ≠ 0 := by have := Nat.two_pow_pos k; omega
  unfold bitsN
  rw [if_neg h0]
  have e1 := (Nat.le_log2 h0).2 h1
  have e2 := (Nat.log2_lt h0).2 h2
  omega
theorem bitsN_le {x k : Nat} (h : x < 2 ^ k) : bitsN x ≤ k := by
  unfold bitsN
  split
  · exact Nat.zero_le _
  · rename_i h0
    have := (Nat.log2_lt h0).2 h
    omega
theorem bitLen_bits : ∀ (k x : Nat), x < 2 ^ k → x < 2 ^ 64 → Lib.bitLen x = bitsN x
  | 0, x, h, _ => by
    obtain rfl : x = 0 := by simpa using h
    rfl
  | k + 1, x, h, h64 => by
    by_cases h0 : x = 0
    · subst h0; rfl
    · rw [Lib.bitLen_half x h0 h64, bitLen_bits k (x / 2) (by rw [Nat.pow_succ] at h; omega) (by omega)]
      unfold bitsN
      rw [if_neg h0, Nat.log2_def x]
      by_cases h2 : 2 ≤ x
      · rw [if_neg (by omega), if_pos h2]; omega
      · rw [if_pos (by omega), if_neg h2]
/-- of a list: by its highest limb -/
theorem bitsN_val : ∀ {l : List Nat}, Bd l → Nrm l → ∀ h : l ≠ [], bitsN (valL l) = 32 * (l.length - 1) + bitsN (l.getLast h)
  | [], _, _, h => absurd rfl h
  | [x], _, _, _ => by simp [valL]
  | x :: y :: l, hb, hn, _ => by
    have ih := bitsN_val (l := y :: l) hb.tail hn (by simp)
    have hp := Nrm.pos (l := y :: l) hn (by simp)
    have hx := hb.head
    have hp0 : 0 < 4294967296 ^ ((y :: l).length - 1) := Nat.pow_pos (by decide)
    rw [List.getLast_cons (by simp), show valL (x :: y :: l) = x + 4294967296 * valL (y :: l) from rfl]
    obtain ⟨v, hv⟩ : ∃ v, valL (y :: l) = v := ⟨_, rfl⟩
    obtain ⟨z, hz⟩ : ∃ z, bitsN ((y :: l).getLast (by simp)) = z := ⟨_, rfl⟩
    rw [hv] at hp ih ⊢
    rw [hz] at ih ⊢
    have hv0 : v ≠ 0 := by omega
    have g1 := bitsN_lt v
    have g2 := bitsN_ge hv0
    have hpos : 1 ≤ bitsN v := by
      unfold bitsN
      rw [if_neg hv0]; omega
    have e4 : (2 : Nat) ^ 32 = 4294967296 := by decide
    have e : bitsN (x + 4294967296 * v) = (32 + (bitsN v - 1)) + 1 := by
      apply bitsN_eq
      · rw [Nat.pow_add, e4]
        have := Nat.mul_le_mul_left 4294967296 g2
        omega
      · rw [show 32 + (bitsN v - 1) + 1 = 32 + bitsN v by omega, Nat.pow_add, e4]
        have : 4294967296 * (v + 1) ≤ 4294967296 * 2 ^ bitsN v := Nat.mul_le_mul_left _ g1
        omega
    rw [e]
    simp only [List.length_cons, Nat.add_sub_cancel] at ih ⊢
    omega

/-! ### shifted up -/
/-- limbs shifted by r bits, c carried in -/
def shlC (r : Nat) : Nat → List Nat → List Nat
  | _, [] => []
  | c, x :: l => (x * 2 ^ r % 4294967296 + c) :: shlC r (x / 2 ^ (32 - r)) l
def shlOut (r : Nat) : Nat → List Nat → Nat
  | c, [] => c
  | _, x :: l => shlOut r (x / 2 ^ (32 - r)) l
/-- in place, from the limb j - 1 down -/
def shlG (r : Nat) : Nat → List Nat → List Nat
  | 0, o => o
  | j + 1, o => shlG r j (o.set j (o.getD j 0 * 2 ^ r % 4294967296 ||| (if 0 < j then o.getD (j - 1) 0 / 2 ^ (32 - r) else 0)))
theorem shlC_len (r : Nat) : ∀ (c : Nat) (l : List Nat), (shlC r c l).length = l.length
  | _, [] => rfl
  | _, x :: l => by rw [shlC, List.length_cons, List.length_cons, shlC_len]
theorem shlG_len (r : Nat) : ∀ (j : Nat) (o : List Nat), (shlG r j o).length = o.length
  | 0, _ => rfl
  | j + 1, o => by rw [shlG, shlG_len, List.length_set]
theorem shl_split {r x : Nat} (hr : r ≤ 32) : x * 2 ^ r = x * 2 ^ r % 4294967296 + 4294967296 * (x / 2 ^ (32 - r)) := by
  have e : (4294967296 : Nat) = 2 ^ (32 - r) * 2 ^ r := by rw [← Nat.pow_add, show 32 - r + r = 32 by omega]
  have h1 : x * 2 ^ r / 4294967296 = x / 2 ^ (32 - r) := by rw [e, Nat.mul_div_mul_right _ _ (Nat.two_pow_pos r)]
  rw [← h1]
  omega
theorem shlC_val {r : Nat} (hr : r ≤ 32) : ∀ (c : Nat) (l : List Nat), valL (shlC r c l) + 4294967296 ^ l.length * shlOut r c l = valL l * 2 ^ r + c
  | c, [] => by simp [shlC, shlOut, valL]
  | c, x :: l => by
    have ih := shlC_val hr (x / 2 ^ (32 - r)) l
    have hs := shl_split (x := x) hr
    rw [shlC, shlOut, valL, valL, List.length_cons, Nat.pow_succ, Nat.add_mul, Nat.mul_assoc 4294967296 (valL l), Nat.mul_comm (4294967296 ^ l.length), Nat.mul_assoc 4294967296]
    have : 4294967296 * (valL (shlC r (x / 2 ^ (32 - r)) l) + 4294967296 ^ l.length * shlOut r (x / 2 ^ (32 - r)) l) = 4294967296 * (valL l * 2 ^ r + x / 2 ^ (32 - r)) := by rw [ih]
    rw [Nat.mul_add, Nat.mul_add] at this
    omega
theorem shlC_bd {r : Nat} (hr : r ≤ 32) : ∀ (c : Nat) (l : List Nat), c < 2 ^ r → Bd l → Bd (shlC r c l)
  | _, [], _, _ => Bd.nil
  | c, x :: l, hc, hb => by
    have hx := hb.head
    refine Bd.cons ?_ (shlC_bd hr _ l ?_ hb.tail)
    · have e : (4294967296 : Nat) = 2 ^ r * 2 ^ (32 - r) := by rw [← Nat.pow_add, show r + (32 - r) = 32 by omega]
      rw [show x * 2 ^ r % 4294967296 = 2 ^ r * (x % 2 ^ (32 - r)) by rw [Nat.mul_comm x, e, Nat.mul_mod_mul_left]]
      have h1 : x % 2 ^ (32 - r) < 2 ^ (32 - r) := Nat.mod_lt _ (Nat.two_pow_pos _)
      have h2 : 2 ^ r * (x % 2 ^ (32 - r) + 1) ≤ 2 ^ r * 2 ^ (32 - r) := Nat.mul_le_mul_left _ h1
      rw [← e, Nat.mul_add] at h2
      omega
    · rw [Nat.div_lt_iff_lt_mul (Nat.two_pow_pos _), ← Nat.pow_add, show r + (32 - r) = 32 by omega]
      exact hx
theorem or_shl {r x c : Nat} (hr : r ≤ 32) (hc : c < 2 ^ r) : x * 2 ^ r % 4294967296 ||| c = x * 2 ^ r % 4294967296 + c := by
  have e : (4294967296 : Nat) = 2 ^ r * 2 ^ (32 - r) := by rw [← Nat.pow_add, show r + (32 - r) = 32 by omega]
  rw [show x * 2 ^ r % 4294967296 = 2 ^ r * (x % 2 ^ (32 - r)) by rw [Nat.mul_comm x, e, Nat.mul_mod_mul_left]]
  exact (Nat.two_pow_add_eq_or_of_lt hc _).symm
theorem getD_set (l : List Nat) (i j v : Nat) : (l.set i v).getD j 0 = if i = j ∧ i < l.length then v else l.getD j 0 := by
  rw [List.getD_eq_getElem?_getD, List.getD_eq_getElem?_getD, List.getElem?_set]
  by_cases h : i = j
  · subst h
    by_cases h2 : i < l.length
    · simp [h2]
    · simp [h2]
  · simp [h]
theorem shlG_get (r : Nat) : ∀ (j : Nat) (o : List Nat) (i : Nat), j ≤ o.length → (shlG r j o).getD i 0 = if i < j then (o.getD i 0 * 2 ^ r % 4294967296 ||| (if 0 < i then o.getD (i - 1) 0 / 2 ^ (32 - r) else 0)) else o.getD i 0
  | 0, o, i, _ => by simp [shlG]
  | j + 1, o, i, h => by
    rw [shlG, shlG_get r j _ i (by rw [List.length_set]; omega)]
    by_cases h1 : i < j
    · have n1 : ¬ (j = i ∧ j < o.length) := by omega
      have n2 : ¬ (j = i - 1 ∧ j < o.length) := by omega
      have n3 : i < j + 1 := by omega
      simp only [getD_set, if_pos h1, if_neg n1, if_neg n2, if_pos n3]
    · by_cases h2 : j = i
      · subst h2
        have n1 : j < o.length := by omega
        have n3 : j < j + 1 := by omega
        simp only [getD_set, if_neg h1, n1, and_self, if_true, if_pos n3]
      · have n1 : ¬ (j = i ∧ j < o.length) := by omega
        have n3 : ¬ i < j + 1 := by omega
        simp only [getD_set, if_neg h1, if_neg n1, if_neg n3]
theorem shlC_get {r : Nat} : ∀ (c : Nat) (l : List Nat) (i : Nat), i < l.length → (shlC r c l).getD i 0 = l.getD i 0 * 2 ^ r % 4294967296 + (if 0 < i then l.getD (i - 1) 0 / 2 ^ (32 - r) else c)
  | _, [], _, h => by simp at h
  | c, x :: l, 0, _ => by simp [shlC]
  | c, x :: l, i + 1, h => by
    have := shlC_get (r := r) (x / 2 ^ (32 - r)) l i (by simpa using h)
    rw [shlC, List.getD_cons_succ, this, List.getD_cons_succ, if_pos (Nat.succ_pos i), Nat.add_sub_cancel]
    cases i with
    | zero => simp
    | succ i => rw [if_pos (Nat.succ_pos i), List.getD_cons_succ, Nat.add_sub_cancel]
theorem shlG_eq {r : Nat} (hr : r ≤ 32) {o : List Nat} (hb : Bd o) : shlG r o.length o = shlC r 0 o := by
  apply List.ext_getElem
  · rw [shlG_len, shlC_len]
  · intro i h1 h2
    rw [shlG_len] at h1
    have g := shlG_get r o.length o i (Nat.le_refl _)
    have c := shlC_get (r := r) 0 o i h1
    rw [if_pos h1] at g
    have hc : (if 0 < i then o.getD (i - 1) 0 / 2 ^ (32 - r) else 0) < 2 ^ r := by
      split
      · rw [Nat.div_lt_iff_lt_mul (Nat.two_pow_pos _), ← Nat.pow_add, show r + (32 - r) = 32 by omega]
        exact hb.getD _
      · exact Nat.two_pow_pos r
    rw [or_shl hr hc] at g
    have e : (shlG r o.length o).getD i 0 = (shlC r 0 o).getD i 0 := by rw [g, c]
    rw [List.getD_eq_getElem?_getD, List.getD_eq_getElem?_getD, List.getElem?_eq_getElem (by rw [shlG_len]; exact h1), List.getElem?_eq_getElem (by rw [shlC_len]; exact h1)] at e
    exact e
theorem valL_rep (n : Nat) : valL (List.replicate n 0) = 0 := valL_zero (fun _ hx => (List.mem_replicate.1 hx).2)
/-- limbs moved up by q places, one limb more, and shifted by r bits -/
theorem shl_num {q r : Nat} {l : List Nat} (hr : r < 32) (hb : Bd l) :
    cutL (shlC r 0 (List.replicate q 0 ++ l ++ [0])) = numL (valL l * 2 ^ (32 * q + r)) := by
  have hbo : Bd (List.replicate q 0 ++ l ++ [0]) := fun x hx => by
    simp only [List.mem_append, List.mem_replicate, List.mem_singleton] at hx
    rcases hx with (⟨_, rfl⟩ | h) | rfl
    · decide
    · exact hb x h
    · decide
  have hv : valL (List.replicate q 0 ++ l ++ [0]) = valL l * 2 ^ (32 * q) := by
    rw [valL_app, valL_app, valL_rep, List.length_replicate, pow32 q]
    simp [valL, Nat.mul_comm]
  have h1 := shlC_val (Nat.le_of_lt hr) 0 (List.replicate q 0 ++ l ++ [0])
  have h2 := valL_lt hb
  have h3 := valL_lt (shlC_bd (Nat.le_of_lt hr) 0 (List.replicate q 0 ++ l ++ [0]) (Nat.two_pow_pos r) hbo)
  rw [shlC_len] at h3
  rw [hv, Nat.add_zero, Nat.mul_assoc, ← Nat.pow_add] at h1
  have hlen : (List.replicate q 0 ++ l ++ [0]).length = q + l.length + 1 := by simp; omega
  rw [hlen] at h1 h3
  have hlt : valL l * 2 ^ (32 * q + r) < 4294967296 ^ (q + l.length + 1) := by
    rw [pow32, show 32 * (q + l.length + 1) = 32 * l.length + (32 * q + 32) by omega, Nat.pow_add 2 (32 * l.length)]
    rw [pow32] at h2
    have h4 : 2 ^ (32 * q + r) ≤ 2 ^ (32 * q + 32) := Nat.pow_le_pow_right (by decide) (by omega)
    calc valL l * 2 ^ (32 * q + r) ≤ valL l * 2 ^ (32 * q + 32) := Nat.mul_le_mul_left _ h4
      _ < 2 ^ (32 * l.length) * 2 ^ (32 * q + 32) := Nat.mul_lt_mul_of_pos_right h2 (Nat.two_pow_pos _)
  have ho : shlOut r 0 (List.replicate q 0 ++ l ++ [0]) = 0 := by
    rcases Nat.eq_zero_or_pos (shlOut r 0 (List.replicate q 0 ++ l ++ [0])) with h | h
    · exact h
    · have := Nat.mul_le_mul_left (4294967296 ^ (q + l.length + 1)) h
      omega
  rw [ho, Nat.mul_zero, Nat.add_zero] at h1
  rw [← h1, cutL_num (shlC_bd (Nat.le_of_lt hr) 0 _ (Nat.two_pow_pos r) hbo)]
theorem shlC_zero : ∀ {l : List Nat}, Bd l → shlC 0 0 l = l
  | [], _ => rfl
  | x :: l, h => by
    have hx := h.head
    rw [shlC, Nat.pow_zero, Nat.mul_one, Nat.mod_eq_of_lt hx, Nat.add_zero, show x / 2 ^ (32 - 0) = 0 from Nat.div_eq_of_lt hx, shlC_zero h.tail]
end Go.Proofs.YteekndchkgdccaaGreatDoor

/- nat.Len, nat.Uint. -/
namespace Go.Proofs.YteekndchkgdccaaGreatDoor
open Go.RowKit

theorem cut_top {l : List Nat} (hb : Bd l) (h : 0 < cutN l l.length) : bitsN (valL l) = 32 * (cutN l l.length - 1) + Lib.bitLen (l.getD (cutN l l.length - 1) 0) := by
  have hn : cutL l ≠ [] := fun e => by have := cutL_len l; rw [e] at this; simp at this; omega
  have h1 : bitsN (valL (cutL l)) = 32 * ((cutL l).length - 1) + bitsN ((cutL l).getLast hn) := bitsN_val (hb.take (cutN l l.length)) (cutL_nrm l) hn
  have e : (cutL l).getLast hn = l.getD (cutN l l.length - 1) 0 := by
    have hle := cutN_le l l.length
    rw [List.getLast_eq_getElem, List.getD_eq_getElem?_getD, List.getElem?_eq_getElem (by omega)]
    simp only [cutL, List.getElem_take, List.length_take, Nat.min_eq_left hle]
    rfl
  rw [e, cutL_len, cutL_val] at h1
  rw [h1, bitLen_bits 32 _ (hb.getD _) (Nat.lt_of_lt_of_le (hb.getD _) (by decide))]
set_option maxRecDepth 100000 in
theorem nLen_ok (A : Option Addr) (c L : Nat) (l : List Nat) (w : World) (hL : l.length = L) (h : Sl EU w A c l) (hb : Bd l) (hl : L ≤ 1000000000) :
    Calls Tryz.prog 81 #[.slice A L c] w fun e w' => e = .returned (.int .i64 ((bitsN (valL l) : Nat) : Int)) ∧ w' = w := by
  have hC := cut_ok A c L l w hL h
  have hle := cutN_le l L
  obtain ⟨k, HK⟩ : ∃ k, Hid (cutN l L = k) := ⟨_, Lib.hid rfl⟩
  have HB := cut_top hb
  rw [hL, HK.out] at HB
  rw [HK.out] at hC hle
  rcases Nat.eq_zero_or_pos k with h0 | h0
  · subst h0
    have hv : bitsN (valL l) = 0 := by
      have h1 := cutL_num hb
      have h2 : cutL l = [] := List.eq_nil_of_length_eq_zero (by rw [cutL_len, hL, HK.out])
      rw [h2] at h1
      rw [(numL_zero_iff _).1 h1.symm]
      rfl
    rw [hv]
    clear hb HB
    go_enter Tryz.func81, Tryz.ntmps81
    go_wp2_with (go_at_call 56; go_must (refine hC.mono ?_); rintro e w1 ⟨rfl, rfl⟩)
    go_ret
    exact ⟨rfl, rfl⟩
  · rw [HB h0]
    obtain ⟨q, HQ⟩ : ∃ q, Hid (k - 1 = q) := ⟨_, Lib.hid rfl⟩
    rw [HQ.out]
    have hkq := HQ.out
    have hqk : q < k := by omega
    obtain ⟨t, HT⟩ : ∃ t, Hid (l.getD q 0 = t) := ⟨_, Lib.hid rfl⟩
    obtain ⟨b1, o1, rfl, hx⟩ := h.elem (i := q) (by omega)
    have hx1 := hx 0 _ rfl
    have hlt : l[q]'(by omega) = t := by rw [← HT.out, List.getD_eq_getElem?_getD, List.getElem?_eq_getElem (by omega)]; rfl
    simp only [EU, Nat.add_zero, Nat.mul_one] at hx1
    rw [hlt] at hx1
    have ht32 : t < 4294967296 := by rw [← HT.out]; exact hb.getD _
    rw [HT.out]
    have hN := fun wv : World => len32_ok t ht32 wv
    obtain ⟨y, HY⟩ : ∃ y, Hid (Lib.bitLen t = y) := ⟨_, Lib.hid rfl⟩
    have hy : y ≤ 64 := by rw [← HY.out]; exact Lib.bitLen_le t 64 (by omega) (by omega)
    rw [HY.out] at hN ⊢
    have hkne : ((k : Int) == 0) = false := by rw [beq_eq_false_iff_ne]; omega
    have i1 : IntKind.i64.wrap ((k : Int) - 1) = (q : Int) := by rw [IntWalk.i64_left, IntWalk.wrap64_in _ ⟨by omega, by omega⟩]; omega
    have i1' : (k : Int) - 1 = (q : Int) := by omega
    have i2 : IntKind.i64.wrap (32 * (q : Int)) = 32 * (q : Int) := by rw [IntWalk.i64_left, IntWalk.wrap64_in _ ⟨by omega, by omega⟩]
    have i3 : IntKind.i64.wrap (32 * (q : Int) + (y : Int)) = 32 * (q : Int) + (y : Int) := by rw [IntWalk.i64_left, IntWalk.wrap64_in _ ⟨by omega, by omega⟩]
    have hq0 : (0 : Int) ≤ (q : Int) := by omega
    have hq1 : (q : Int) < (k : Int) := by omega
    have HN := Lib.hid hN
    clear hN hx hlt h hb HB hkq
    go_enter Tryz.func81, Tryz.ntmps81
    go_wp2_with (first | (go_at_call 56; go_must (refine hC.mono ?_); rintro e w1 ⟨rfl, rfl⟩) | (go_at_call 100; go_must (refine (HN.out _).mono ?_); rintro e w1 ⟨rfl, rfl⟩))
    go_ret
    refine ⟨?_, rfl⟩
    simp
end Go.Proofs.YteekndchkgdccaaGreatDoor

/- nat.Uint. -/
namespace Go.Proofs.YteekndchkgdccaaGreatDoor
open Go.RowKit

theorem getD_cut {l : List Nat} {i : Nat} (h : i < cutN l l.length) : (cutL l)[i]? = some (l.getD i 0) := by
  have hle := cutN_le l l.length
  unfold cutL
  rw [List.getElem?_take, if_pos h, List.getD_eq_getElem?_getD, List.getElem?_eq_getElem (by omega)]
  rfl
def UintE (x k : Nat) : Ending := if k ≤ 2 then .returned (.tuple #[.int .u64 (x : Int), .bool true]) else .returned (.tuple #[.int .u64 0, .bool false])
set_option maxRecDepth 100000 in
theorem nUint_ok (A : Option Addr) (c L : Nat) (l : List Nat) (w : World) (hL : l.length = L) (h : Sl EU w A c l) (hb : Bd l) (hl : L ≤ 1000000000) :
    Calls Tryz.prog 38 #[.slice A L c] w fun e w' => e = UintE (valL l) (cutN l L) ∧ w' = w := by
  have hC := cut_ok A c L l w hL h
  have hcl := cutL_len l
  have hv := cutL_val l
  have hg := fun i => getD_cut (l := l) (i := i)
  have hle := cutN_le l L
  obtain ⟨k, HK⟩ : ∃ k, Hid (cutN l L = k) := ⟨_, Lib.hid rfl⟩
  rw [hL, HK.out] at hcl hg
  rw [HK.out] at hC hle ⊢
  by_cases hk : k ≤ 2
  · obtain ⟨x, HX⟩ : ∃ x, Hid (valL l = x) := ⟨_, Lib.hid rfl⟩
    rw [HX.out] at hv ⊢
    have HE : Hid (UintE x k = .returned (.tuple #[.int .u64 (x : Int), .bool true])) := Lib.hid (if_pos hk)
    rw [HE.out]
    have hgt : decide ((k : Int) > 2) = false := by rw [decide_eq_false_iff_not]; omega
    rcases (show k = 0 ∨ k = 1 ∨ k = 2 by omega) with rfl | rfl | rfl
    · have hx0 : x = 0 := by
        rw [← hv, List.eq_nil_of_length_eq_zero hcl]; rfl
      subst hx0
      clear hv hg hcl hb
      go_enter Tryz.func38, Tryz.ntmps38
      go_wp2_with (go_at_call 56; go_must (refine hC.mono ?_); rintro e w1 ⟨rfl, rfl⟩)
      refine wp_loop_rounds 1 ?_
      rw [rounds_succ]
      go_wp2
      go_ret2
      exact ⟨rfl, rfl⟩
    · obtain ⟨b1, o1, rfl, hx⟩ := h.elem (i := 0) (by omega)
      have hx1 := hx 0 _ rfl
      have g0 := hg 0 (by decide)
      obtain ⟨x0, HX0⟩ : ∃ x0, Hid (l.getD 0 0 = x0) := ⟨_, Lib.hid rfl⟩
      have hl0 : l[0]'(by omega) = x0 := by rw [← HX0.out, List.getD_eq_getElem?_getD, List.getElem?_eq_getElem (by omega)]; rfl
      have hx32 : x0 < 4294967296 := by rw [← HX0.out]; exact hb.getD _
      simp only [EU, Nat.add_zero, Nat.mul_one] at hx1
      rw [hl0] at hx1
      rw [HX0.out] at g0
      have hcut : cutL l = [x0] := by
        apply List.ext_getElem?
        intro i
        cases i with
        | zero => rw [g0]; rfl
        | succ i => rw [List.getElem?_eq_none (by omega)]; simp
      have hxx : x = x0 := by rw [← hv, hcut]; simp [valL]
      subst hxx
      have i1 : IntKind.u64.wrap (x : Int) = (x : Int) := by rw [IntKind.wrap_u64]; omega
      have i2 : bits .or .u64 0 (x : Int) = (x : Int) := by
        have := u64_or_nat 0 x (by decide) (by omega)
        rw [Nat.zero_or] at this
        exact this
      clear hv hg hcl hb hx hl0 h
      go_enter Tryz.func38, Tryz.ntmps38
      go_wp2_with (go_at_call 56; go_must (refine hC.mono ?_); rintro e w1 ⟨rfl, rfl⟩)
      refine wp_loop_rounds 2 ?_
      rw [rounds_succ]
      go_wp2
      rw [rounds_succ]
      go_wp2
      go_ret2
      exact ⟨rfl, rfl⟩
    · obtain ⟨b1, o1, rfl, hx⟩ := h.elem (i := 0) (by omega)
      have hx1 := hx 0 _ rfl
      obtain ⟨b2, o2, e2, hy⟩ := h.elem (i := 1) (by omega)
      simp only [Option.some.injEq, Addr.mk.injEq, and_true] at e2
      obtain ⟨rfl, rfl⟩ := e2
      have hy1 := hy 0 _ rfl
      have g0 := hg 0 (by decide)
      have g1 := hg 1 (by decide)
      obtain ⟨x0, HX0⟩ : ∃ x0, Hid (l.getD 0 0 = x0) := ⟨_, Lib.hid rfl⟩
      obtain ⟨y0, HY0⟩ : ∃ y0, Hid (l.getD 1 0 = y0) := ⟨_, Lib.hid rfl⟩
      have hl0 : l[0]'(by omega) = x0 := by rw [← HX0.out, List.getD_eq_getElem?_getD, List.getElem?_eq_getElem (by omega)]; rfl
      have hl1 : l[1]'(by omega) = y0 := by rw [← HY0.out, List.getD_eq_getElem?_getD, List.getElem?_eq_getElem (by omega)]; rfl
      have hx32 : x0 < 4294967296 := by rw [← HX0.out]; exact hb.getD _
      have hy32 : y0 < 4294967296 := by rw [← HY0.out]; exact hb.getD _
      simp only [EU, Nat.add_zero, Nat.mul_one] at hx1 hy1
      rw [hl0] at hx1
      rw [hl1] at hy1
      rw [HX0.out] at g0
      rw [HY0.out] at g1
      have hcut : cutL l = [x0, y0] := by
        apply List.ext_getElem?
        intro i
        match i with
        | 0 => rw [g0]; rfl
        | 1 => rw [g1]; rfl
        | i + 2 => rw [List.getElem?_eq_none (by omega)]; simp
      have hxx : x = x0 + 4294967296 * y0 := by rw [← hv, hcut]; simp [valL]
      have i1 : IntKind.u64.wrap (x0 : Int) = (x0 : Int) := by rw [IntKind.wrap_u64]; omega
      have i1y : IntKind.u64.wrap (y0 : Int) = (y0 : Int) := by rw [IntKind.wrap_u64]; omega
      have i2 : bits .or .u64 0 (x0 : Int) = (x0 : Int) := by
        have := u64_or_nat 0 x0 (by decide) (by omega)
        rw [Nat.zero_or] at this
        exact this
      have i3 : IntKind.u64.wrap ((y0 : Int) * 4294967296) = (y0 : Int) * 4294967296 := by rw [IntKind.wrap_u64]; omega
      have i4 : bits .or .u64 (x0 : Int) ((y0 : Int) * 4294967296) = (x : Int) := by
        have h1 := u64_or_nat x0 (y0 * 4294967296) (by omega) (by omega)
        have h2 : x0 ||| y0 * 4294967296 = y0 * 4294967296 + x0 := by
          have := Nat.two_pow_add_eq_or_of_lt (i := 32) hx32 y0
          rw [Nat.or_comm, show (4294967296 : Nat) = 2 ^ 32 by decide, Nat.mul_comm y0, ← this]
        rw [h2, show ((y0 * 4294967296 : Nat) : Int) = (y0 : Int) * 4294967296 by omega] at h1
        rw [h1, hxx]
        omega
      clear hv hg hcl hb hx hy hl0 hl1 h hxx
      go_enter Tryz.func38, Tryz.ntmps38
      go_wp2_with (go_at_call 56; go_must (refine hC.mono ?_); rintro e w1 ⟨rfl, rfl⟩)
      refine wp_loop_rounds 3 ?_
      rw [rounds_succ]
      go_wp2
      rw [rounds_succ]
      go_wp2
      rw [rounds_succ]
      go_wp2
      go_ret2
      exact ⟨rfl, rfl⟩
  · rw [UintE, if_neg hk]
    have hgt : decide ((k : Int) > 2) = true := by rw [decide_eq_true_iff]; omega
    clear hv hg hcl hb
    go_enter Tryz.func38, Tryz.ntmps38
    go_wp2_with (go_at_call 56; go_must (refine hC.mono ?_); rintro e w1 ⟨rfl, rfl⟩)
    go_ret2
    exact ⟨rfl, rfl⟩
end Go.Proofs.YteekndchkgdccaaGreatDoor

/- nat.Shl. -/
namespace Go.Proofs.YteekndchkgdccaaGreatDoor
open Go.RowKit

section
variable {α : Type} {E : El α} {w : World}
theorem range_puts {b o i : Nat} {xs : List α} (hr : w.rangeAt b o (E.flat xs)) (ys : List α) (hi : i + ys.length ≤ xs.length) (ht : w.there b (o + i * E.sz) (ys.length * E.sz)) :
    (w.setCells b (o + i * E.sz) (E.flat ys)).rangeAt b o (E.flat (xs.take i ++ (ys ++ xs.drop (i + ys.length)))) := by
  have hx : xs = xs.take i ++ ((xs.drop i).take ys.length ++ xs.drop (i + ys.length)) := by
    rw [← List.drop_drop, List.take_append_drop, List.take_append_drop]
  have hl : (xs.take i).length = i := by simp; omega
  have hl2 : ((xs.drop i).take ys.length).length = ys.length := by simp; omega
  rw [hx, E.flat_app, E.flat_app, range_app, range_app, E.flat_len, E.flat_len, hl, hl2] at hr
  rw [E.flat_app, E.flat_app, range_app, range_app, E.flat_len, hl, E.flat_len]
  refine ⟨World.rangeAt_setCells_apart hr.1 _ _ _ (.inr (.inl ?_)), World.rangeAt_setCells_same _ _ _ _ (by rw [E.flat_len]; exact ht), World.rangeAt_setCells_apart hr.2.2 _ _ _ (.inr (.inr ?_))⟩
  · rw [E.flat_len, hl]; exact Nat.le_refl _
  · rw [E.flat_len]; exact Nat.le_refl _
theorem Ow.puts {b o c i : Nat} {xs : List α} (h : Ow E w (some ⟨b, o, none⟩) c xs) (ys : List α) (hi : i + ys.length ≤ xs.length) (hn : xs ≠ []) :
    Ow E (w.setCells b (o + i * E.sz) (E.flat ys)) (some ⟨b, o, none⟩) c (xs.take i ++ (ys ++ xs.drop (i + ys.length))) := by
  have hle := h.sl.le
  have hp : 0 < xs.length := List.length_pos_iff.2 hn
  obtain ⟨b', o', e', ht⟩ := h.room (by omega)
  simp only [Option.some.injEq, Addr.mk.injEq, and_true] at e'
  obtain ⟨rfl, rfl⟩ := e'
  have h1 : i * E.sz + ys.length * E.sz ≤ c * E.sz := by
    rw [← Nat.add_mul]
    exact Nat.mul_le_mul_right _ (by omega)
  refine ⟨⟨by simp; omega, h.sl.cap, fun _ => ⟨b, o, rfl, ?_⟩⟩, fun _ => ⟨b, o, rfl, World.there_setCells ht _ _ _⟩⟩
  obtain ⟨b', o', e', hr⟩ := h.sl.at_ hn
  simp only [Option.some.injEq, Addr.mk.injEq, and_true] at e'
  obtain ⟨rfl, rfl⟩ := e'
  exact range_puts hr ys hi (there_sub ht (by omega) (by omega))
end
/-- what a slice's cell reads -/
theorem ow_cell {w : World} {b c i x : Nat} {xs : List Nat} (h : Ow EU w (some ⟨b, 0, none⟩) c xs) (hi : i < xs.length) (hx : xs.getD i 0 = x) : w.cell? ⟨b, i, none⟩ = some (.int .u32 (x : Int)) := by
  obtain ⟨b1, o1, e1, hr⟩ := h.sl.elem (i := i) hi
  simp only [Option.some.injEq, Addr.mk.injEq, and_true] at e1
  obtain ⟨rfl, rfl⟩ := e1
  have h1 := hr 0 _ rfl
  simp only [EU, Nat.add_zero, Nat.mul_one, Nat.zero_add] at h1
  rw [h1, show xs[i] = x by rw [← hx, List.getD_eq_getElem?_getD, List.getElem?_eq_getElem hi]; rfl]
theorem ow_free {w : World} {b c i : Nat} {xs : List Nat} (h : Ow EU w (some ⟨b, 0, none⟩) c xs) (hi : i < xs.length) : w.frozen? ⟨b, i, none⟩ = false := by
  have hle := h.sl.le
  obtain ⟨b', o', e', ht⟩ := h.room (by omega)
  simp only [Option.some.injEq, Addr.mk.injEq, and_true] at e'
  obtain ⟨rfl, rfl⟩ := e'
  have := (ht i (by simp only [EU]; omega)).2
  rwa [Nat.zero_add] at this
theorem ow_put {w : World} {b c i : Nat} {xs : List Nat} (h : Ow EU w (some ⟨b, 0, none⟩) c xs) (hi : i < xs.length) (x : Nat) : Ow EU (w.setCell ⟨b, i, none⟩ (.int .u32 (x : Int))) (some ⟨b, 0, none⟩) c (xs.set i x) := by
  have := h.put hi x
  rwa [show w.setCells b (0 + i * EU.sz) (EU.cells x) = w.setCell ⟨b, i, none⟩ (.int .u32 (x : Int)) by simp [EU, World.setCells]] at this

theorem run_slice_lo {P : Program} (w : World) (t e : TypeId) (sz : Nat) (ht : P.underlying t = some (.slice e)) (hsz : (P.info? e).map (·.size) = some sz) (b o n c lo : Nat) (h1 : lo ≤ n) (h2 : n ≤ c) (h3 : 0 < n - lo) :
    (Instr.slice t (.slice (some ⟨b, o, none⟩) n c) (some (.int .i64 (lo : Int))) none none).run P w = .ok (.slice (some ⟨b, o + lo * sz, none⟩) (n - lo) (c - lo)) w := by
  obtain ⟨i, hi', his⟩ := Option.map_eq_some_iff.1 hsz
  have h4 : ¬ (c = lo) := by omega
  simp [Instr.slice, run_underlying ht, Instr.sliceBounds, Instr.sliceBound, sizeOf, typeInfo, hi', asIntOf, h1, his, h4, Addr.add]
set_option maxRecDepth 100000 in
set_option maxHeartbeats 1000000 in
theorem nShl_ok (A : Option Addr) (c L n : Nat) (l : List Nat) (w : World) (hL : l.length = L) (h : Sl EU w A c l) (hb : Bd l) (hl : L ≤ 1000000) (hn : n + bitsN (valL l) ≤ 8388608) :
    Calls Tryz.prog 64 #[.slice A L c, .int .i64 (n : Int)] w fun e w' => Keep nob w w' ∧ ∃ A', e = .returned (.tuple #[.slice A' (numL (valL l * 2 ^ n)).length (numL (valL l * 2 ^ n)).length, .bool true]) ∧ Sl EU w' A' (numL (valL l * 2 ^ n)).length (numL (valL l * 2 ^ n)) ∧ Lies (fun k => w.heap.size ≤ k) A' (numL (valL l * 2 ^ n)) := by
  have hC := cut_ok A c L l w hL h
  have hcs := cut_sl h
  have hcl := cutL_len l
  have hle := cutN_le l L
  have hLen := nLen_ok A (cutN l L) (cutN l L) (cutL l) w (by rw [cutL_len, hL]) (by rw [← hL]; exact hcs) (hb.take _) (by omega)
  rw [cutL_val] at hLen
  obtain ⟨k, HK⟩ : ∃ k, Hid (cutN l L = k) := ⟨_, Lib.hid rfl⟩
  rw [hL, HK.out] at hcl hcs
  rw [HK.out] at hC hle hLen
  obtain ⟨v, HV⟩ : ∃ v, Hid (valL l = v) := ⟨_, Lib.hid rfl⟩
  have hcn := cutL_num hb
  rw [HV.out] at hn hLen hcn ⊢
  obtain ⟨R, HR⟩ : ∃ R, Hid (numL (v * 2 ^ n) = R) := ⟨_, Lib.hid rfl⟩
  rw [HR.out]
  have hn0 : decide ((n : Int) < 0) = false := by rw [decide_eq_false_iff_not]; omega
  rcases Nat.eq_zero_or_pos k with h0 | h0
  · subst h0
    have hR0 : R = [] := by
      rw [List.eq_nil_of_length_eq_zero hcl] at hcn
      rw [← HR.out, (numL_zero_iff v).1 hcn.symm, Nat.zero_mul]
      rfl
    subst hR0
    clear hb hcs hcl hcn hn hLen
    go_enter Tryz.func64, Tryz.ntmps64
    go_wp2_with (go_at_call 56; go_must (refine hC.mono ?_); rintro e w1 ⟨rfl, rfl⟩)
    go_ret2
    exact ⟨Keep.refl _ _, none, rfl, Sl.nil_ EU w1 none (Nat.zero_le _), fun h => absurd rfl h⟩
  · have hk0 : ((k : Int) == 0) = false := by rw [beq_eq_false_iff_ne]; omega
    obtain ⟨bt, HBT⟩ : ∃ bt, Hid (bitsN v = bt) := ⟨_, Lib.hid rfl⟩
    rw [HBT.out] at hn hLen
    have i1 : IntKind.i64.wrap (8388608 - (bt : Int)) = 8388608 - (bt : Int) := by rw [IntWalk.i64_left, IntWalk.wrap64_in _ ⟨by omega, by omega⟩]
    have i2 : decide ((n : Int) > 8388608 - (bt : Int)) = false := by rw [decide_eq_false_iff_not]; omega
    obtain ⟨q, HQ⟩ : ∃ q, Hid (n / 32 = q) := ⟨_, Lib.hid rfl⟩
    obtain ⟨r, HRR⟩ : ∃ r, Hid (n % 32 = r) := ⟨_, Lib.hid rfl⟩
    have hnq : n = 32 * q + r := by rw [← HQ.out, ← HRR.out]; omega
    have hr32 : r < 32 := by rw [← HRR.out]; omega
    have hq6 : q ≤ 262144 := by omega
    have i3 : Int.tdiv (n : Int) 32 = (q : Int) := by rw [← HQ.out]; rfl
    have i3w : IntKind.i64.wrap (q : Int) = (q : Int) := by rw [IntWalk.i64_left, IntWalk.wrap64_in _ ⟨by omega, by omega⟩]
    have i4 : Int.tmod (n : Int) 32 = (r : Int) := by rw [← HRR.out]; rfl
    have i4w : IntKind.i64.wrap (r : Int) = (r : Int) := by rw [IntWalk.i64_left, IntWalk.wrap64_in _ ⟨by omega, by omega⟩]
    have i5 : IntKind.i64.wrap ((q : Int) + (k : Int)) = (q : Int) + (k : Int) := by rw [IntWalk.i64_left, IntWalk.wrap64_in _ ⟨by omega, by omega⟩]
    obtain ⟨m, HM⟩ : ∃ m, Hid (q + k + 1 = m) := ⟨_, Lib.hid rfl⟩
    have hm6 : m ≤ 2000000 := by rw [← HM.out]; omega
    have i6 : IntKind.i64.wrap ((q : Int) + (k : Int) + 1) = (m : Int) := by rw [← HM.out, IntWalk.i64_left, IntWalk.wrap64_in _ ⟨by omega, by omega⟩]; omega
    have i6' : (q : Int) + (k : Int) + 1 = (m : Int) := by rw [← HM.out]; omega
    have HCS := Lib.hid hcs
    have HCL := Lib.hid hcl
    have HNQ := Lib.hid hnq
    have HBD := Lib.hid (hb.take k)
    have HTK : Hid (l.take k = cutL l) := by unfold Hid cutL; rw [hL, HK.out]
    rw [HTK.out] at HBD
    have HCN := Lib.hid hcn
    clear hb hcs hcl hcn hnq
    go_enter Tryz.func64, Tryz.ntmps64
    go_upto_region 9 with (first | (go_at_call 56; go_must (refine hC.mono ?_); rintro e w1 ⟨rfl, rfl⟩) | (go_at_call 81; go_must (refine hLen.mono ?_); rintro e w2 ⟨rfl, rfl⟩) | (at_make; refine wpList_make_E EU rfl _ _ 30 rfl 49 _ 4 Tryz.underlying30 infoU32 m m _ _ rfl rfl rfl rfl (Nat.le_refl _) (by omega) (by omega) ?_; intro w3 HW3))
    obtain ⟨bm, HBM⟩ : ∃ bm, Hid (w2.heap.size = bm) := ⟨_, Lib.hid rfl⟩
    have HO3 : Hid (Ow EU w3 (some ⟨bm, 0, none⟩) m (List.replicate m (0 : Nat))) := by rw [← HBM.out, HW3.out]; exact ow_made EU w2 49 (.int .u32 0) 0 rfl m m (Nat.le_refl _) (by omega)
    have HK3 : Hid (Keep nob w2 w3) := by rw [HW3.out]; exact (Keep.refl _ w2).alloc _
    clear HW3
    rw [HBM.out]
    have hqm : q ≤ m := by have := HM.out; omega
    have HSL : Hid (Sl EU w3 A k (cutL l)) := Lib.hid (HCS.out.keep HK3.out (fun ⟨_, _, h⟩ => h))
    have HMQ : Hid (m - q = k + 1) := by unfold Hid; have := HM.out; omega
    obtain ⟨mq, HMQ2⟩ : ∃ mq, Hid (m - q = mq) := ⟨_, Lib.hid rfl⟩
    have hth : w3.there bm q (k * EU.sz) := by
      obtain ⟨b', o', e', ht⟩ := HO3.out.room (by have := HM.out; omega)
      simp only [Option.some.injEq, Addr.mk.injEq, and_true] at e'
      obtain ⟨rfl, rfl⟩ := e'
      exact there_sub ht (by omega) (by have := HMQ.out; simp only [EU, Nat.mul_one]; omega)
    have HTH := Lib.hid hth
    have hmq0 : 0 < m - q := by have := HMQ.out; omega
    have hsli := run_slice_lo (P := Tryz.prog) w3 30 49 1 Tryz.underlying30 sizeU32 bm 0 m m q hqm (Nat.le_refl _) hmq0
    rw [HMQ2.out, Nat.zero_add, Nat.mul_one] at hsli
    clear hth
    go_upto_region 10 with (refine wpList_copy_E EU rfl _ _ 30 30 rfl 49 Tryz.underlying30 sizeU32 (some ⟨bm, q, none⟩) mq mq rfl A k k rfl (cutL l) HCL.out HSL.out k (by have := HMQ.out; have := HMQ2.out; simp only [Nat.min_def]; split <;> omega) (fun _ => ⟨bm, q, rfl, HTH.out⟩) ?_; intro w4 h40 h41)
    obtain ⟨o, HOD⟩ : ∃ o, Hid (List.replicate q 0 ++ cutL l ++ [0] = o) := ⟨_, Lib.hid rfl⟩
    have hol : Hid (o.length = m) := by unfold Hid; rw [← HOD.out]; have := HM.out; have := HCL.out; simp; omega
    have hob : Hid (Bd o) := by
      unfold Hid
      rw [← HOD.out]
      intro x hx
      simp only [List.mem_append, List.mem_replicate, List.mem_singleton] at hx
      rcases hx with (⟨_, rfl⟩ | hx) | rfl
      · decide
      · exact HBD.out x hx
      · decide
    have hw4 : Hid (w4 = w3.setCells bm (0 + q * EU.sz) (EU.flat (cutL l))) := by
      unfold Hid
      have := h41.out bm q h0 rfl
      rw [List.take_of_length_le (by rw [HCL.out]; exact Nat.le_refl _)] at this
      simpa [EU] using this
    have HO4 : Hid (Ow EU w4 (some ⟨bm, 0, none⟩) m o) := by
      unfold Hid
      have h1 := HO3.out.puts (i := q) (cutL l) (by rw [List.length_replicate, HCL.out]; have := HM.out; omega) (fun e => by have := congrArg List.length e; simp at this; have := HM.out; omega)
      rw [← hw4.out] at h1
      rw [List.take_replicate, List.drop_replicate, HCL.out, Nat.min_eq_left hqm, show m - (q + k) = 1 by have := HM.out; omega] at h1
      rw [← HOD.out, List.append_assoc]
      exact h1
    have HK4 : Hid (Keep (· = bm) w3 w4) := by unfold Hid; rw [hw4.out]; exact (Keep.refl _ w3).setCells _ _ (fun _ => rfl)
    have HTR : Hid (R = cutL (shlC r 0 o)) := by
      unfold Hid
      have h1 := shl_num (q := q) hr32 HBD.out
      rw [HOD.out, cutL_val, HV.out, ← HNQ.out, HR.out] at h1
      exact h1.symm
    have HBW : Hid (bm < w3.heap.size) := by
      obtain ⟨b', o', e', hlt⟩ := HO3.out.lt (by have := HM.out; omega)
      simp only [Option.some.injEq, Addr.mk.injEq, and_true] at e'
      obtain ⟨rfl, rfl⟩ := e'
      exact hlt
    have HEND := Lib.hid (fun (wf : World) (T : List Nat) (ho : Ow EU wf (some ⟨bm, 0, none⟩) m T) (hTm : T.length = m) => cut_ok (some ⟨bm, 0, none⟩) m m T wf hTm ho.sl)
    have HFIN : Hid (∀ (wf : World) (T : List Nat), shlC r 0 o = T → T.length = m → Ow EU wf (some ⟨bm, 0, none⟩) m T → Keep (· = bm) w3 wf → Keep nob w2 wf ∧ ∃ A', Ending.returned (Value.tuple #[.slice (some ⟨bm, 0, none⟩) (cutN T m) (cutN T m), .bool true]) = .returned (.tuple #[.slice A' R.length R.length, .bool true]) ∧ Sl EU wf A' R.length R ∧ Lies (fun k => w2.heap.size ≤ k) A' R) := by
      intro wf T hT hTm ho hk
      have h1 := cut_sl ho.sl
      have hRl : R.length = cutN T m := by rw [HTR.out, hT, cutL_len, hTm]
      rw [hRl, HTR.out, hT]
      rw [hTm] at h1
      exact ⟨HK3.out.trans hk (fun j h1 h2 => by have := HBM.out; omega), _, rfl, h1, fun _ => ⟨_, rfl, by have := HBM.out; simp only; omega⟩⟩
    rcases Nat.eq_zero_or_pos r with hr0 | hr0
    · have hrd : decide ((r : Int) > 0) = false := by rw [decide_eq_false_iff_not]; omega
      have hT0 : shlC r 0 o = o := by rw [hr0]; exact shlC_zero hob.out
      have HE := Lib.hid (HEND.out w4 o HO4.out hol.out)
      go_wp2_with (go_at_call 56; go_must (refine HE.out.mono ?_); rintro e w5 ⟨rfl, rfl⟩)
      go_ret2
      exact HFIN.out _ o hT0 hol.out HO4.out HK4.out
    · have hrd : decide ((r : Int) > 0) = true := by rw [decide_eq_true_iff]; omega
      obtain ⟨T, HT⟩ : ∃ T, Hid (shlG r m o = T) := ⟨_, Lib.hid rfl⟩
      have HTC : Hid (shlC r 0 o = T) := by unfold Hid; rw [← HT.out, ← hol.out, shlG_eq (Nat.le_of_lt hr32) hob.out]
      have HTL : Hid (T.length = m) := by unfold Hid; rw [← HT.out, shlG_len, hol.out]
      obtain ⟨s, HS⟩ : ∃ s, Hid (32 - r = s) := ⟨_, Lib.hid rfl⟩
      have j1 : IntKind.i64.wrap (32 - (r : Int)) = (s : Int) := by rw [← HS.out, IntWalk.i64_left, IntWalk.wrap64_in _ ⟨by omega, by omega⟩]; omega
      have j1' : 32 - (r : Int) = (s : Int) := by rw [← HS.out]; omega
      have hs32 : s < 32 := by rw [← HS.out]; omega
      go_wp2_with (fail)
      go_loopw [7, 8, 43] (fun u7 u8 u43 wr => ∃ (i : Nat) (cur : List Nat), i ≤ m ∧ u43 = .int .i64 (i : Int) ∧ Hid (shlG r (m - i) cur = T) ∧ Hid (cur.length = m) ∧ Hid (Bd cur) ∧ Hid (Ow EU wr (some ⟨bm, 0, none⟩) m cur) ∧ Hid (Keep (· = bm) w3 wr)) (fun _ _ u43 _ => m - (intOf u43).toNat)
      case atStart => exact ⟨0, o, Nat.zero_le _, rfl, HT, hol, hob, HO4, HK4⟩
      case round =>
        obtain ⟨i, cur, hi, rfl, HG, HCU, HBC, HO, HK⟩ := hrel
        rcases Nat.lt_or_ge i m with hlt | hge
        · have hlt2 : decide ((i : Int) < (m : Int)) = true := by rw [decide_eq_true_iff]; omega
          obtain ⟨j, HJ⟩ : ∃ j, Hid (m - 1 - i = j) := ⟨_, Lib.hid rfl⟩
          have hjm : j < m := by rw [← HJ.out]; omega
          have j2 : IntKind.i64.wrap ((m : Int) - 1) = (m : Int) - 1 := by rw [IntWalk.i64_left, IntWalk.wrap64_in _ ⟨by omega, by omega⟩]
          have j3' : (m : Int) - 1 - (i : Int) = (j : Int) := by rw [← HJ.out]; omega
          have j3 : IntKind.i64.wrap ((m : Int) - 1 - (i : Int)) = (j : Int) := by rw [j3', IntWalk.i64_left, IntWalk.wrap64_in _ ⟨by omega, by omega⟩]
          have hj0 : (0 : Int) ≤ (j : Int) := by omega
          have hj1 : (j : Int) < (m : Int) := by omega
          have hjc : j < cur.length := by rw [HCU.out]; exact hjm
          obtain ⟨x, HX⟩ : ∃ x, Hid (cur.getD j 0 = x) := ⟨_, Lib.hid rfl⟩
          have hx1 := ow_cell HO.out hjc HX.out
          have hf1 := ow_free HO.out hjc
          have hx32 : x < 4294967296 := by rw [← HX.out]; exact HBC.out.getD _
          obtain ⟨x1, HX1⟩ : ∃ x1, Hid (x * 2 ^ r % 4294967296 = x1) := ⟨_, Lib.hid rfl⟩
          have hx132 : x1 < 4294967296 := by rw [← HX1.out]; exact Nat.mod_lt _ (by decide)
          have j4 : IntKind.u32.wrap ((x : Int) * 2 ^ r) = (x1 : Int) := by
            rw [IntKind.wrap_u32, ← HX1.out, show (x : Int) * 2 ^ r = ((x * 2 ^ r : Nat) : Int) by rw [Int.natCast_mul, Int.natCast_pow]; rfl]
            omega
          have HP1 := Lib.hid (ow_put HO.out hjc x1)
          have HK5 : Hid (Keep (· = bm) w3 (wr.setCell ⟨bm, j, none⟩ (.int .u32 (x1 : Int)))) := Lib.hid (HK.out.setCell (fun _ => rfl) _)
          have hcl1 : (cur.set j x1).length = m := by rw [List.length_set, HCU.out]
          have hc1 := ow_cell (i := j) (x := x1) HP1.out (by rw [hcl1]; exact hjm) (by rw [getD_set, if_pos ⟨rfl, hjc⟩])
          have hf2 := ow_free (i := j) HP1.out (by rw [hcl1]; exact hjm)
          have HCL1 := Lib.hid hcl1
          have HJC := Lib.hid hjc
          have hst : m - i = j + 1 := by rw [← HJ.out]; omega
          have hst2 : m - (i + 1) = j := by rw [← HJ.out]; omega
          have HG2 : Hid (shlG r j (cur.set j (x1 ||| (if 0 < j then cur.getD (j - 1) 0 / 2 ^ (32 - r) else 0))) = T) := by
            have := HG.out
            rw [hst, shlG, HX.out, HX1.out] at this
            exact Lib.hid this
          have HST2 := Lib.hid hst2
          clear hjc hcl1 hst hst2
          go_upto_region 17 with (fail)
          obtain ⟨w5, HW5⟩ : ∃ w5, Hid (wr.setCell ⟨bm, j, none⟩ (.int .u32 (x1 : Int)) = w5) := ⟨_, Lib.hid rfl⟩
          rw [HW5.out] at HP1 HK5 hc1 hf2 ⊢
          rcases Nat.eq_zero_or_pos j with hjz | hjz
          · subst hjz
            rw [if_neg (Nat.lt_irrefl 0), Nat.or_zero] at HG2
            go_wp2
            refine ⟨⟨i + 1, cur.set 0 x1, by omega, rfl, ?_, HCL1, ?_, HP1, HK5⟩, by simp [intOf]; omega⟩
            · unfold Hid; rw [HST2.out]; exact HG2.out
            · intro y hy
              rcases List.mem_or_eq_of_mem_set hy with hy | rfl
              · exact HBC.out y hy
              · exact hx132
          · have hjd : decide ((j : Int) > 0) = true := by rw [decide_eq_true_iff]; omega
            rw [if_pos hjz, HS.out] at HG2
            obtain ⟨y, HY⟩ : ∃ y, Hid (cur.getD (j - 1) 0 = y) := ⟨_, Lib.hid rfl⟩
            have hy32 : y < 4294967296 := by rw [← HY.out]; exact HBC.out.getD _
            rw [HY.out] at HG2
            obtain ⟨p, HPJ⟩ : ∃ p, Hid (j - 1 = p) := ⟨_, Lib.hid rfl⟩
            have hpj : p < m := by rw [← HPJ.out]; omega
            have hc2 := ow_cell (i := p) (x := y) HP1.out (by rw [HCL1.out]; exact hpj) (by rw [getD_set, if_neg (by rw [← HPJ.out]; omega), ← HPJ.out]; exact HY.out)
            have j5 : IntKind.i64.wrap ((j : Int) - 1) = (p : Int) := by rw [← HPJ.out, IntWalk.i64_left, IntWalk.wrap64_in _ ⟨by omega, by omega⟩]; omega
            have j5' : (j : Int) - 1 = (p : Int) := by rw [← HPJ.out]; omega
            have j8 : IntKind.i64.wrap (p : Int) = (p : Int) := by rw [IntWalk.i64_left, IntWalk.wrap64_in _ ⟨by omega, by omega⟩]
            have j9 : IntKind.i64.wrap (s : Int) = (s : Int) := by rw [IntWalk.i64_left, IntWalk.wrap64_in _ ⟨by omega, by omega⟩]
            have hp0 : (0 : Int) ≤ (p : Int) := by omega
            have hp1 : (p : Int) < (m : Int) := by omega
            obtain ⟨ys, HYS⟩ : ∃ ys, Hid (y / 2 ^ s = ys) := ⟨_, Lib.hid rfl⟩
            have j6 : (y : Int) / 2 ^ s = (ys : Int) := by rw [← HYS.out, Int.natCast_ediv, Int.natCast_pow]; rfl
            have hys32 : ys < 4294967296 := by rw [← HYS.out]; exact Nat.lt_of_le_of_lt (Nat.div_le_self _ _) hy32
            rw [HYS.out] at HG2
            obtain ⟨z, HZ⟩ : ∃ z, Hid (x1 ||| ys = z) := ⟨_, Lib.hid rfl⟩
            have j7 : bits .or .u32 (x1 : Int) (ys : Int) = (z : Int) := by rw [u32_or_nat x1 ys hx132 hys32, HZ.out]
            have hz32 : z < 4294967296 := by rw [← HZ.out]; exact Nat.or_lt_two_pow (n := 32) hx132 hys32
            rw [HZ.out] at HG2
            go_upto_region 18 with (fail)
            go_still_tail 14, (by kernel_rfl)
            change wpList _ _ _ _ _ w5.drew
            have HPD : Hid (Ow EU (w5.drew.setCell ⟨bm, j, none⟩ (.int .u32 (z : Int))) (some ⟨bm, 0, none⟩) m (cur.set j z)) := by
              have h1 := ow_put (HP1.out.keep ((Keep.refl nob w5).drew) (fun ⟨_, _, h⟩ => h)) (i := j) (by rw [HCL1.out]; exact hjm) z
              rw [List.set_set] at h1
              exact Lib.hid h1
            have HKD : Hid (Keep (· = bm) w3 (w5.drew.setCell ⟨bm, j, none⟩ (.int .u32 (z : Int)))) := Lib.hid ((HK5.out.drew).setCell (fun _ => rfl) _)
            have hzd : w5.drew.cell? ⟨bm, j, none⟩ = some (.int .u32 (x1 : Int)) := hc1
            have hfd : w5.drew.frozen? ⟨bm, j, none⟩ = false := hf2
            obtain ⟨wd, HWD⟩ : ∃ wd, Hid (w5.drew = wd) := ⟨_, Lib.hid rfl⟩
            rw [HWD.out] at HPD HKD hzd hfd ⊢
            go_wp2
            refine ⟨⟨i + 1, cur.set j z, by omega, rfl, ?_, ?_, ?_, HPD, HKD⟩, by simp [intOf]; omega⟩
            · unfold Hid; rw [HST2.out]; exact HG2.out
            · unfold Hid; rw [List.length_set, HCU.out]
            · intro y hy
              rcases List.mem_or_eq_of_mem_set hy with hy | rfl
              · exact HBC.out y hy
              · exact hz32
        · obtain rfl : i = m := by omega
          have hlt2 : decide ((i : Int) < (i : Int)) = false := by rw [decide_eq_false_iff_not]; omega
          have hcT : cur = T := by rw [← HG.out, Nat.sub_self]; rfl
          subst hcT
          have HE := Lib.hid (HEND.out wr cur HO.out HTL.out)
          go_wp2_with (go_at_call 56; go_must (refine HE.out.mono ?_); rintro e w5 ⟨rfl, rfl⟩)
          go_ret2
          exact HFIN.out _ cur HTC.out HTL.out HO.out HK.out
end Go.Proofs.YteekndchkgdccaaGreatDoor

/- ieee.Int. -/
namespace Go.Proofs.YteekndchkgdccaaGreatDoor
open Go.RowKit

theorem ret_it {fn : Func} {p u : Tmp} {R : Ending → World → Prop} {a : Act} {w : World} {b : Nat} {neg : Bool} {A : Option Addr} {n c : Nat} {v : Value} (h : fn.results = #[.cell p 32, .tmp u]) (hp : a.tmps.getD p undef = .pointer (some ⟨b, 0, none⟩)) (hv : a.tmps.getD u undef = v) (hd : a.defers = [])
    (h0 : w.cell? ⟨b, 0, none⟩ = some (.bool neg)) (h1 : w.cell? ⟨b, 1, none⟩ = some (.slice A n c)) (hR : R (.returned (.tuple #[intV neg A n c, v])) w) : bodyPost Tryz.prog fn R .ret a w := by
  refine bodyPost_ret ((results_cell_tmp h _ _ _).trans ?_) hd hR
  have hl := load_int h0 h1
  rw [hp, hv]
  simp [asAddr, hl]
/-- what ieee.Int answers -/
def IntPost (w : World) (x : Option (Bool × Nat)) (e : Ending) (w' : World) : Prop := Keep nob w w' ∧ match x with
  | none => e = .returned (.tuple #[intV false none 0 0, .bool false])
  | some (g, v) => ∃ A', e = .returned (.tuple #[intV g A' (numL v).length (numL v).length, .bool true]) ∧ Sl EU w' A' (numL v).length (numL v) ∧ Lies (fun k => w.heap.size ≤ k) A' (numL v)
theorem numL_cut (v : Nat) : cutL (numL v) = numL v ∧ cutN (numL v) (numL v).length = (numL v).length := by
  have h1 : cutL (numL v) = numL v := by rw [cutL_num (numL_bd v), valL_numL]
  refine ⟨h1, ?_⟩
  rw [← cutL_len, h1]
theorem two32_num {x : Nat} (h : x < 18446744073709551616) : cutL (two32 x) = numL x ∧ cutN (two32 x) 2 = (numL x).length := by
  have hb : Bd (two32 x) := Bd.cons (by omega) (Bd.cons (by omega) Bd.nil)
  have hv : valL (two32 x) = x := by simp only [two32, valL]; omega
  have h1 : cutL (two32 x) = numL x := by rw [cutL_num hb, hv]
  refine ⟨h1, ?_⟩
  rw [← h1, cutL_len]; rfl
theorem parts_bd {F X x : Nat} {L : Int} (hF : F ≤ 52) (hL : -1074 ≤ L) (hX : 2 ^ X ≤ 2048) (hL0 : L ≤ 0) (hE : L + ((2 ^ X : Nat) : Int) ≤ 1000) {neg : Bool} {m : Nat} {e : Int} (h : partsN F L X x = some (neg, m, e)) : m < 9007199254740992 ∧ -1074 ≤ e ∧ e ≤ 1100 := by
  unfold partsN at h
  simp only at h
  split at h
  · cases h
  · rename_i h1
    split at h
    · simp only [Option.some.injEq, Prod.mk.injEq] at h
      omega
    · rename_i h2
      simp only [Option.some.injEq, Prod.mk.injEq] at h
      obtain ⟨-, rfl, rfl⟩ := h
      have hp : 0 < 2 ^ F := Nat.two_pow_pos F
      have hF2 : 2 ^ F ≤ 4503599627370496 := Nat.pow_le_pow_right (show 0 < 2 by decide) hF
      obtain ⟨size, hs⟩ : ∃ size, x % 2 ^ (F + X) = size := ⟨_, rfl⟩
      have hlt : size < 2 ^ (F + X) := by rw [← hs]; exact Nat.mod_lt _ (Nat.two_pow_pos _)
      rw [hs] at h1 h2 ⊢
      have hk : size / 2 ^ F < 2 ^ X := by
        rw [Nat.div_lt_iff_lt_mul hp, Nat.mul_comm, ← Nat.pow_add]
        exact hlt
      have hr : size % 2 ^ F < 2 ^ F := Nat.mod_lt _ hp
      have hm : (if 0 < size / 2 ^ F then size % 2 ^ F + 2 ^ F else size) < 9007199254740992 := by
        split
        · omega
        · rename_i h3
          have : size < 2 ^ F := by
            rcases Nat.lt_or_ge size (2 ^ F) with h4 | h4
            · exact h4
            · exact absurd (Nat.div_pos h4 hp) h3
          omega
      obtain ⟨m, hmm⟩ : ∃ m, (if 0 < size / 2 ^ F then size % 2 ^ F + 2 ^ F else size) = m := ⟨_, rfl⟩
      rw [hmm] at hm ⊢
      have hz : Lib.ctz 64 m ≤ 64 := by
        by_cases h0 : m = 0
        · subst h0; exact Nat.le_refl _
        · exact Nat.le_of_lt (Lib.lowest_bit 64 m h0 (by omega)).2
      refine ⟨Nat.lt_of_le_of_lt (Nat.div_le_self _ _) hm, ?_, ?_⟩
      · split <;> omega
      · split <;> omega
set_option maxRecDepth 100000 in
theorem int64_ok (x B : Nat) (hx : x < 18446744073709551616) (sa : Nat → Addr) (w : World) (g : GL B sa w) : Calls Tryz.prog 42 #[.int .u64 (x : Int)] w (IntPost w (intN 52 (-1074) 11 x)) := by
  obtain ⟨w0, b4, HW0, HB4, HK0, HT0, HL0⟩ := start2 w
  have HP := Lib.hid (parts64_ok x B hx sa w0 (g.keep HK0.out (fun _ h => h.elim)))
  have hbd := @parts_bd 52 11 x (-1074) (by decide) (by decide) (by decide) (by decide) (by decide)
  obtain ⟨Y, HY⟩ : ∃ Y, Hid (intN 52 (-1074) 11 x = Y) := ⟨_, Lib.hid rfl⟩
  rw [HY.out]
  unfold intN at HY
  clear g
  cases hp : partsN 52 (-1074) 11 x with
  | none =>
    rw [hp] at HP HY
    simp only [PartsE] at HP HY
    go_enter Tryz.func42, Tryz.ntmps42
    go_upto_region 1 with (fail)
    rw [HW0.out, HB4.out]
    go_wp2_with (go_at_call 63; go_must (refine HP.out.mono ?_); rintro e w1 ⟨rfl, hk1⟩; have HK1 := Lib.hid hk1; clear hk1; obtain ⟨v0, v1, ⟨d0, d1⟩, f0, f1⟩ := two (HT0.out.keep' HK1.out))
    obtain ⟨w2, e2, p0, p1, k2⟩ := put2 (HT0.out.keep' HK1.out) (.bool false) (.slice none 0 0)
    rw [e2.out]
    have hL := HL0.out
    refine ret_it rfl rfl rfl rfl p0 p1 ⟨(HK0.out.then_ HK1.out).trans k2 (fun k h1 h2 => by omega), ?_⟩
    rw [← HY.out]
    exact rfl
  | some y =>
    obtain ⟨neg, m, e⟩ := y
    rw [hp] at HP HY
    simp only [PartsE] at HP HY
    obtain ⟨hm, he1, he2⟩ := hbd hp
    by_cases he : e < 0
    · rw [if_pos he] at HY
      have hed : decide (e < 0) = true := by rw [decide_eq_true_iff]; exact he
      go_enter Tryz.func42, Tryz.ntmps42
      go_upto_region 1 with (fail)
      rw [HW0.out, HB4.out]
      go_wp2_with (go_at_call 63; go_must (refine HP.out.mono ?_); rintro e w1 ⟨rfl, hk1⟩; have HK1 := Lib.hid hk1; clear hk1; obtain ⟨v0, v1, ⟨d0, d1⟩, f0, f1⟩ := two (HT0.out.keep' HK1.out))
      obtain ⟨w2, e2, p0, p1, k2⟩ := put2 (HT0.out.keep' HK1.out) (.bool false) (.slice none 0 0)
      rw [e2.out]
      have hL := HL0.out
      refine ret_it rfl rfl rfl rfl p0 p1 ⟨(HK0.out.then_ HK1.out).trans k2 (fun k h1 h2 => by omega), ?_⟩
      rw [← HY.out]
      exact rfl
    · rw [if_neg he] at HY
      obtain ⟨n, rfl⟩ := Int.eq_ofNat_of_zero_le (Int.not_lt.1 he)
      have hed : decide ((n : Int) < 0) = false := by rw [decide_eq_false_iff_not]; exact he
      rw [Int.toNat_natCast] at HY
      obtain ⟨t1, t2⟩ := two32_num (x := m) (by omega)
      have HF := Lib.hid (fun wv : World => nFrom_ok m (by omega) wv)
      rw [t1, t2] at HF
      have hbm : bitsN m ≤ 64 := bitsN_le (by omega)
      have hlm : (numL m).length ≤ 2 := numL_len_le (f := 2) (by omega)
      have HS := Lib.hid (fun (A : Option Addr) (wv : World) (h : Sl EU wv A (numL m).length (numL m)) => nShl_ok A (numL m).length (numL m).length n (numL m) wv rfl h (numL_bd m) (by omega) (by rw [valL_numL]; omega))
      rw [valL_numL] at HS
      obtain ⟨v, HV⟩ : ∃ v, Hid (m * 2 ^ n = v) := ⟨_, Lib.hid rfl⟩
      rw [HV.out] at HS HY
      have hvl : v < 4294967296 ^ 200 := by
        rw [← HV.out]
        calc m * 2 ^ n ≤ 9007199254740992 * 2 ^ n := Nat.mul_le_mul_right _ (Nat.le_of_lt hm)
          _ ≤ 9007199254740992 * 2 ^ 3000 := Nat.mul_le_mul_left _ (Nat.pow_le_pow_right (by decide) (by omega))
          _ < 4294967296 ^ 200 := by decide +kernel
      have hln : (numL v).length ≤ 200 := numL_len_le hvl
      obtain ⟨c1, c2⟩ := numL_cut v
      have HN := Lib.hid (fun (A : Option Addr) (wv : World) (h : Sl EU wv A (numL v).length (numL v)) => wNorm_ok neg A (numL v).length (numL v).length (numL v) wv rfl h (by omega))
      rw [c1, c2] at HN
      have hg : (neg && decide (0 < m)) = negN neg (numL v).length := by
        unfold negN
        have h1 : 0 < (numL v).length ↔ 0 < m := by
          rw [numL_pos_iff, ← HV.out]
          have hp := Nat.two_pow_pos n
          constructor
          · intro h
            rcases Nat.eq_zero_or_pos m with h0 | h0
            · subst h0; simp at h
            · exact h0
          · intro h; exact Nat.mul_pos h hp
        rw [decide_eq_decide.2 h1]
      rw [hg] at HY
      obtain ⟨gg, HGG⟩ : ∃ gg, Hid (negN neg (numL v).length = gg) := ⟨_, Lib.hid rfl⟩
      rw [HGG.out] at HY HN
      have HY2 : Hid (Y = some (gg, v)) := Lib.hid HY.out.symm
      obtain ⟨N1, HN1⟩ : ∃ N1, Hid (numL m = N1) := ⟨_, Lib.hid rfl⟩
      obtain ⟨N2, HN2⟩ : ∃ N2, Hid (numL v = N2) := ⟨_, Lib.hid rfl⟩
      rw [HN1.out] at HF HS
      rw [HN2.out] at HS HN
      obtain ⟨L1, HL1⟩ : ∃ L1, Hid (N1.length = L1) := ⟨_, Lib.hid rfl⟩
      obtain ⟨L2, HL2⟩ : ∃ L2, Hid (N2.length = L2) := ⟨_, Lib.hid rfl⟩
      rw [HL1.out] at HF HS
      rw [HL2.out] at HS HN
      unfold intV at HN
      clear t1 t2 c1 c2 hg hvl hln hlm hbm hbd hp he hm he1 he2
      go_enter Tryz.func42, Tryz.ntmps42
      go_upto_region 1 with (fail)
      rw [HW0.out, HB4.out]
      go_wp2_with (first | (go_at_call 63; go_must (refine HP.out.mono ?_); rintro e w1 ⟨rfl, hk1⟩; have HK1 := Lib.hid hk1; clear hk1; obtain ⟨v0, v1, ⟨d0, d1⟩, f0, f1⟩ := two (HT0.out.keep' HK1.out)) | (go_at_call 65; go_must (refine (HF.out _).mono ?_); rintro e w2 ⟨hk2, A1, rfl, hs2, hl2⟩; have HK2 := Lib.hid hk2; have HS2 := Lib.hid hs2; clear hk2 hs2 hl2) | (go_at_call 64; go_must (refine (HS.out _ _ HS2.out).mono ?_); rintro e w3 ⟨hk3, A2, rfl, hs3, hl3⟩; have HK3 := Lib.hid hk3; have HS3 := Lib.hid hs3; clear hk3 hs3 hl3) | (go_at_call 58; go_must (refine (HN.out _ _ HS3.out).mono ?_); rintro e w5 ⟨hk5, A3, rfl, hs5, hl5⟩; have HK5 := Lib.hid hk5; have HS5 := Lib.hid hs5; have HL5 := Lib.hid hl5; clear hk5 hs5 hl5; obtain ⟨v0, v1, ⟨d0, d1⟩, f0, f1⟩ := two ((((HT0.out.keep' HK1.out).keep' HK2.out).keep' HK3.out).keep' HK5.out)))
      obtain ⟨w6, e6, p0, p1, k6⟩ := put2 ((((HT0.out.keep' HK1.out).keep' HK2.out).keep' HK3.out).keep' HK5.out) (.bool gg) (.slice A3 L2 L2)
      rw [e6.out]
      have hL := HL0.out
      have hz1 := HK1.out.size
      have hz2 := HK2.out.size
      have hz3 := HK3.out.size
      refine ret_it rfl rfl rfl rfl p0 p1 ⟨((((HK0.out.then_ HK1.out).then_ HK2.out).then_ HK3.out).then_ HK5.out).trans k6 (fun k h1 h2 => by omega), ?_⟩
      rw [HY2.out]
      show ∃ A', _ ∧ _ ∧ _
      rw [HN2.out, HL2.out]
      exact ⟨A3, rfl, HS5.out.keepD k6 HL5.out (fun k hk e => by omega), HL5.out.mono HS5.out (fun k _ hk => by omega)⟩
end Go.Proofs.YteekndchkgdccaaGreatDoor

/- ieee.Round at what is exact in 64 bits. -/
namespace Go.Proofs.YteekndchkgdccaaGreatDoor
open Go.RowKit

set_option maxRecDepth 100000 in
set_option maxHeartbeats 1000000 in
theorem round64_ok (neg : Bool) (A : Option Addr) (m B : Nat) (e : Int) (hm : m < 9007199254740992) (he1 : -1074 ≤ e) (he2 : e ≤ 1100) (sa : Nat → Addr) (w : World) (g : GL B sa w) (h : Sl EU w A (numL m).length (numL m)) :
    Calls Tryz.prog 72 #[.bool neg, .slice A (numL m).length (numL m).length, .int .i64 e, .bool false] w fun e' w' => e' = .returned (.int .u64 ((exact64 neg m e : Nat) : Int)) ∧ Keep nob w w' := by
  have hof := of64_ok B sa w g
  unfold shV at hof
  have HSG := Lib.hid (fun (x : Nat) (hx : x < 9223372036854775808) (wv : World) (hk : Keep nob w wv) => isigned64_ok neg x B hx sa wv (g.keep hk (fun _ h => h.elim)))
  have HINF := Lib.hid sinf64_ok
  have hlm : (numL m).length ≤ 2 := numL_len_le (f := 2) (by omega)
  have HLN := Lib.hid (fun (wv : World) (hk : Keep nob w wv) => nLen_ok A (numL m).length (numL m).length (numL m) wv rfl (h.keep hk (fun ⟨_, _, h⟩ => h)) (numL_bd m) (by omega))
  have HUI := Lib.hid (fun (wv : World) (hk : Keep nob w wv) => nUint_ok A (numL m).length (numL m).length (numL m) wv rfl (h.keep hk (fun ⟨_, _, h⟩ => h)) (numL_bd m) (by omega))
  rw [valL_numL] at HLN HUI
  rw [(numL_cut m).2] at HUI
  have hUE : UintE m (numL m).length = .returned (.tuple #[.int .u64 (m : Int), .bool true]) := if_pos hlm
  rw [hUE] at HUI
  obtain ⟨L, HL⟩ : ∃ L, Hid ((numL m).length = L) := ⟨_, Lib.hid rfl⟩
  rw [HL.out] at HLN HUI ⊢
  obtain ⟨n, HN⟩ : ∃ n, Hid (bitsN m = n) := ⟨_, Lib.hid rfl⟩
  rw [HN.out] at HLN
  have hn53 : n ≤ 53 := by rw [← HN.out]; exact bitsN_le (by omega)
  obtain ⟨R, HR⟩ : ∃ R, Hid (exact64 neg m e = R) := ⟨_, Lib.hid rfl⟩
  rw [HR.out]
  unfold exact64 at HR
  rw [bitLen_bits 64 m (by omega) (by omega), HN.out] at HR
  clear hUE hlm g h
  by_cases hm0 : m = 0
  · subst hm0
    rw [if_pos rfl] at HR
    have hn0 : n = 0 := by rw [← HN.out]; rfl
    subst hn0
    have HSG0 := Lib.hid (HSG.out 0 (by decide))
    rw [HR.out] at HSG0
    simp only [Int.natCast_zero] at HLN HSG0
    go_enter Tryz.func72, Tryz.ntmps72
    go_wp2_with (first | (go_at_call 67; go_must (refine hof.mono ?_); rintro e w1 ⟨rfl, hk1⟩; have HK1 := Lib.hid (hk1.alloc (.cells #[.int .i64 52, .int .i64 (-1074), .int .i64 11] 141)); clear hk1) | (go_at_call 81; go_must (refine (HLN.out _ HK1.out).mono ?_); rintro e w2 ⟨rfl, rfl⟩) | (go_at_call 70; go_must (refine (HSG0.out _ HK1.out).mono ?_); rintro e w3 ⟨rfl, hk3⟩))
    go_ret
    exact ⟨rfl, HK1.out.then_ hk3⟩
  rw [if_neg hm0] at HR
  have hn0 : ((n : Int) == 0) = false := by
    rw [beq_eq_false_iff_ne]
    intro h
    have h1 := bitsN_lt m
    rw [HN.out, show n = 0 by omega] at h1
    omega
  have d1 : decide (e > 2000) = false := by rw [decide_eq_false_iff_not]; omega
  have i1 : IntKind.i64.wrap (-3000 - (n : Int)) = -3000 - (n : Int) := by rw [IntWalk.i64_left, IntWalk.wrap64_in _ ⟨by omega, by omega⟩]
  have d2 : decide (e < -3000 - (n : Int)) = false := by rw [decide_eq_false_iff_not]; omega
  have i2 : IntKind.i64.wrap ((n : Int) - 52) = (n : Int) - 52 := by rw [IntWalk.i64_left, IntWalk.wrap64_in _ ⟨by omega, by omega⟩]
  have i3 : IntKind.i64.wrap ((n : Int) - 52 - 1) = (n : Int) - 53 := by rw [IntWalk.i64_left, IntWalk.wrap64_in _ ⟨by omega, by omega⟩]; omega
  have i3' : (n : Int) - 52 - 1 = (n : Int) - 53 := by omega
  have i4 : IntKind.i64.wrap ((n : Int) - 53 + e) = (n : Int) - 53 + e := by rw [IntWalk.i64_left, IntWalk.wrap64_in _ ⟨by omega, by omega⟩]
  obtain ⟨last, HLA⟩ : ∃ last : Int, Hid (max ((n : Int) - 53 + e) (-1074) = last) := ⟨_, Lib.hid rfl⟩
  rw [HLA.out] at HR
  have hl1 : -1074 ≤ last ∧ last ≤ 1100 ∧ last ≤ e := by rw [← HLA.out]; omega
  have hmx : (if (n : Int) - 53 + e < -1074 then (-1074 : Int) else (n : Int) - 53 + e) = last := by rw [← HLA.out]; split <;> omega
  obtain ⟨dl, HDL⟩ : ∃ dl : Nat, Hid ((last + 1074).toNat = dl) := ⟨_, Lib.hid rfl⟩
  have hdl : last + 1074 = (dl : Int) := by rw [← HDL.out]; omega
  have hdl2 : last - (-1074) = (dl : Int) := by omega
  have i5 : IntKind.i64.wrap (dl : Int) = (dl : Int) := by rw [IntWalk.i64_left, IntWalk.wrap64_in _ ⟨by omega, by omega⟩]
  go_enter Tryz.func72, Tryz.ntmps72
  go_upto_region 13 with (first | (go_at_call 67; go_must (refine hof.mono ?_); rintro e w1 ⟨rfl, hk1⟩; have HK1 := Lib.hid (hk1.alloc (.cells #[.int .i64 52, .int .i64 (-1074), .int .i64 11] 141)); have c0 := (sh_new w1 (.int .i64 52) (.int .i64 (-1074)) (.int .i64 11) 141).1; have c1 := (sh_new w1 (.int .i64 52) (.int .i64 (-1074)) (.int .i64 11) 141).2.1; have c2 := (sh_new w1 (.int .i64 52) (.int .i64 (-1074)) (.int .i64 11) 141).2.2; clear hk1) | (go_at_call 81; go_must (refine (HLN.out _ HK1.out).mono ?_); rintro e w2 ⟨rfl, rfl⟩))
  go_quiet (fail)
  obtain ⟨w4, HW4⟩ : ∃ w4, Hid ((w1.alloc (.cells #[.int .i64 52, .int .i64 (-1074), .int .i64 11] 141)).drewN nq = w4) := ⟨_, Lib.hid rfl⟩
  have hkd : Keep nob (w1.alloc (.cells #[.int .i64 52, .int .i64 (-1074), .int .i64 11] 141)) w4 := by rw [← HW4.out]; exact (Keep.refl _ _).drewN _
  have c0 := hkd.cell c0 (fun h => h)
  have c1 := hkd.cell c1 (fun h => h)
  have c2 := hkd.cell c2 (fun h => h)
  have HK4 := Lib.hid (HK1.out.then_ hkd)
  obtain ⟨bs, HBS⟩ : ∃ bs, Hid (w1.heap.size = bs) := ⟨_, Lib.hid rfl⟩
  rw [HBS.out] at c0 c1 c2
  rw [HW4.out, HBS.out]
  clear hkd i1 i2 i3 i3' i4 hmx d1 d2 hn0
  rw [hdl] at HR
  by_cases hinf : 2046 ≤ dl
  · have hd : decide ((2046 : Int) ≤ (dl : Int)) = true := by rw [decide_eq_true_iff]; omega
    rw [if_pos (by omega)] at HR
    have HSI := Lib.hid (HSG.out 9218868437227405312 (by decide))
    rw [HR.out] at HSI
    go_wp2_with (first | (go_at_call 71; go_must (refine (HINF.out _).mono ?_); rintro e w5 ⟨rfl, hk5⟩; have HK5 := Lib.hid (HK4.out.then_ hk5); clear hk5) | (go_at_call 70; go_must (refine (HSI.out _ HK5.out).mono ?_); rintro e w6 ⟨rfl, hk6⟩))
    go_ret
    exact ⟨rfl, HK5.out.then_ hk6⟩
  · have hd : decide ((2046 : Int) ≤ (dl : Int)) = false := by rw [decide_eq_false_iff_not]; omega
    rw [if_neg (by omega)] at HR
    have hle : decide (last ≤ e) = true := by rw [decide_eq_true_iff]; omega
    obtain ⟨s, HS⟩ : ∃ s, Hid ((e - last).toNat = s) := ⟨_, Lib.hid rfl⟩
    have i6' : e - last = (s : Int) := by rw [← HS.out]; omega
    have i6 : IntKind.i64.wrap (s : Int) = (s : Int) := by rw [IntWalk.i64_left, IntWalk.wrap64_in _ ⟨by omega, by omega⟩]
    rw [HS.out, Int.toNat_natCast] at HR
    obtain ⟨kp, HKP⟩ : ∃ kp, Hid (m * 2 ^ s = kp) := ⟨_, Lib.hid rfl⟩
    rw [HKP.out] at HR
    have hns : n + s ≤ 53 := by have := HLA.out; omega
    have hkp : kp < 9007199254740992 := by
      have h1 := bitsN_lt m
      rw [HN.out] at h1
      rw [← HKP.out]
      calc m * 2 ^ s < 2 ^ n * 2 ^ s := Nat.mul_lt_mul_of_pos_right h1 (Nat.two_pow_pos s)
        _ = 2 ^ (n + s) := (Nat.pow_add ..).symm
        _ ≤ 2 ^ 53 := Nat.pow_le_pow_right (by decide) hns
    have i7 : IntKind.u64.wrap ((m : Int) * 2 ^ s) = (kp : Int) := by
      rw [IntKind.wrap_u64, ← HKP.out, show (m : Int) * 2 ^ s = ((m * 2 ^ s : Nat) : Int) by rw [Int.natCast_mul, Int.natCast_pow]; rfl, HKP.out]
      omega
    obtain ⟨kq, HKQ⟩ : ∃ kq, Hid (kp / 4503599627370496 = kq) := ⟨_, Lib.hid rfl⟩
    rw [HKQ.out] at HR
    have i8 : (kp : Int) / 4503599627370496 = (kq : Int) := by rw [← HKQ.out]; omega
    have hnn : n + s ≤ 53 := hns
    clear hns he1 he2 hl1 hdl hdl2
    by_cases hk0 : kq = 0
    · subst hk0
      rw [if_pos rfl] at HR
      have HSK := Lib.hid (HSG.out kp (by omega))
      rw [HR.out] at HSK
      simp only [Int.natCast_zero] at i8
      go_wp2_with (first | (go_at_call 38; go_must (refine (HUI.out _ HK4.out).mono ?_); rintro e w5 ⟨rfl, rfl⟩) | (go_at_call 70; go_must (refine (HSK.out _ HK4.out).mono ?_); rintro e w6 ⟨rfl, hk6⟩))
      go_ret
      exact ⟨rfl, HK4.out.then_ hk6⟩
    · rw [if_neg hk0] at HR
      have hkd : ((kq : Int) == 0) = false := by rw [beq_eq_false_iff_ne]; omega
      obtain ⟨z, HZ⟩ : ∃ z, Hid (dl * 4503599627370496 + kp = z) := ⟨_, Lib.hid rfl⟩
      rw [HZ.out] at HR
      have hz : z < 9223372036854775808 := by rw [← HZ.out]; omega
      have HSZ := Lib.hid (HSG.out z hz)
      rw [HR.out] at HSZ
      have hdl : last + 1074 = (dl : Int) := by have := HDL.out; have := HLA.out; omega
      have hdl2 : last - (-1074) = (dl : Int) := by omega
      have j1 : IntKind.u64.wrap (dl : Int) = (dl : Int) := by rw [IntKind.wrap_u64]; omega
      have j2 : IntKind.u64.wrap ((dl : Int) * 4503599627370496) = (dl : Int) * 4503599627370496 := by rw [IntKind.wrap_u64]; omega
      have j3' : (dl : Int) * 4503599627370496 + (kp : Int) = (z : Int) := by rw [← HZ.out]; omega
      have j3 : IntKind.u64.wrap (z : Int) = (z : Int) := by rw [IntKind.wrap_u64]; omega
      go_upto_region 27 with (go_at_call 38; go_must (refine (HUI.out _ HK4.out).mono ?_); rintro e w5 ⟨rfl, rfl⟩)
      go_wp2_with (go_at_call 70; go_must (refine (HSZ.out _ HK4.out).mono ?_); rintro e w9 ⟨rfl, hk9⟩)
      go_ret
      exact ⟨rfl, HK4.out.then_ hk9⟩
end Go.Proofs.YteekndchkgdccaaGreatDoor

/- ieee.Class, To. -/
namespace Go.Proofs.YteekndchkgdccaaGreatDoor
open Go.RowKit

def classN (F X x : Nat) : Nat := if 2 ^ (F + X) - 2 ^ F < x % 2 ^ (F + X) then 5 else if x % 2 ^ (F + X) = 2 ^ (F + X) - 2 ^ F then 4 else if x % 2 ^ (F + X) = 0 then 1 else if x % 2 ^ (F + X) / 2 ^ F = 0 then 2 else 3
theorem signed64_lt {neg : Bool} {x : Nat} (h : x < 9223372036854775808) : signed64N neg x < 18446744073709551616 := by
  unfold signed64N
  split <;> omega
theorem exact64_lt {neg : Bool} {m : Nat} {e : Int} (hm : m < 9007199254740992) (_he : -1074 ≤ e) : exact64 neg m e < 18446744073709551616 := by
  unfold exact64
  split
  · exact signed64_lt (by decide)
  · obtain ⟨last, hla⟩ : ∃ last : Int, max ((Lib.bitLen m : Int) - 53 + e) (-1074) = last := ⟨_, rfl⟩
    simp only [hla]
    split
    · exact signed64_lt (by decide)
    · rename_i hinf
      have hb := bitLen_bits 64 m (by omega) (by omega)
      obtain ⟨n, hn⟩ : ∃ n, bitsN m = n := ⟨_, rfl⟩
      rw [hb, hn] at hla
      have hn53 : n ≤ 53 := by rw [← hn]; exact bitsN_le (by omega)
      obtain ⟨s, hs⟩ : ∃ s, (e - last).toNat = s := ⟨_, rfl⟩
      have hns : n + s ≤ 53 := by omega
      have h1 := bitsN_lt m
      rw [hn] at h1
      have hkp : m * 2 ^ s < 9007199254740992 := by
        calc m * 2 ^ s < 2 ^ n * 2 ^ s := Nat.mul_lt_mul_of_pos_right h1 (Nat.two_pow_pos s)
          _ = 2 ^ (n + s) := (Nat.pow_add ..).symm
          _ ≤ 2 ^ 53 := Nat.pow_le_pow_right (by decide) hns
      rw [hs]
      split
      · exact signed64_lt (by omega)
      · exact signed64_lt (by omega)
set_option maxRecDepth 100000 in
theorem class64_ok (x B : Nat) (hx : x < 18446744073709551616) (sa : Nat → Addr) (w : World) (g : GL B sa w) : Calls Tryz.prog 66 #[.int .u64 (x : Int)] w fun e w' => e = .returned (.int .i8 ((classN 52 11 x : Nat) : Int)) ∧ Keep nob w w' := by
  have hof := of64_ok B sa w g
  have HSPL := Lib.hid (fun (wv : World) (hk : Keep nob w wv) => split64_ok x B hx sa wv (g.keep hk (fun _ h => h.elim)))
  have HINF := Lib.hid sinf64_ok
  unfold shV at hof
  have hcl : classN 52 11 x = if 9218868437227405312 < x % 9223372036854775808 then 5 else if x % 9223372036854775808 = 9218868437227405312 then 4 else if x % 9223372036854775808 = 0 then 1 else if x % 9223372036854775808 / 4503599627370496 = 0 then 2 else 3 := rfl
  rw [hcl]
  obtain ⟨size, HSZ⟩ : ∃ size, Hid (x % 9223372036854775808 = size) := ⟨_, Lib.hid rfl⟩
  rw [HSZ.out] at HSPL ⊢
  clear g hx hcl
  by_cases h1 : 9218868437227405312 < size
  · rw [if_pos h1]
    have d1 : decide ((size : Int) > 9218868437227405312) = true := by rw [decide_eq_true_iff]; omega
    go_enter Tryz.func66, Tryz.ntmps66
    go_wp2_with (first | (go_at_call 67; go_must (refine hof.mono ?_); rintro e w1 ⟨rfl, hk1⟩; have HK1 := Lib.hid (hk1.alloc (.cells #[.int .i64 52, .int .i64 (-1074), .int .i64 11] 141)); clear hk1) | (go_at_call 69; go_must (refine (HSPL.out _ HK1.out).mono ?_); rintro e w2 ⟨rfl, hk2⟩; have c0 := hk2.cell (sh_new w1 (.int .i64 52) (.int .i64 (-1074)) (.int .i64 11) 141).1 (fun h => h); have c1 := hk2.cell (sh_new w1 (.int .i64 52) (.int .i64 (-1074)) (.int .i64 11) 141).2.1 (fun h => h); have c2 := hk2.cell (sh_new w1 (.int .i64 52) (.int .i64 (-1074)) (.int .i64 11) 141).2.2 (fun h => h); have HK2 := Lib.hid (HK1.out.then_ hk2); clear hk2) | (go_at_call 71; go_must (refine (HINF.out _).mono ?_); rintro e w3 ⟨rfl, hk3⟩; have c0 := hk3.cell c0 (fun h => h); have c1 := hk3.cell c1 (fun h => h); have c2 := hk3.cell c2 (fun h => h); have HK2 := Lib.hid (HK2.out.then_ hk3); clear hk3))
    go_ret
    exact ⟨rfl, HK2.out⟩
  rw [if_neg h1]
  have d1 : decide ((size : Int) > 9218868437227405312) = false := by rw [decide_eq_false_iff_not]; omega
  by_cases h2 : size = 9218868437227405312
  · rw [if_pos h2]
    have d2 : ((size : Int) == 9218868437227405312) = true := by rw [beq_iff_eq]; omega
    clear h2
    go_enter Tryz.func66, Tryz.ntmps66
    go_wp2_with (first | (go_at_call 67; go_must (refine hof.mono ?_); rintro e w1 ⟨rfl, hk1⟩; have HK1 := Lib.hid (hk1.alloc (.cells #[.int .i64 52, .int .i64 (-1074), .int .i64 11] 141)); clear hk1) | (go_at_call 69; go_must (refine (HSPL.out _ HK1.out).mono ?_); rintro e w2 ⟨rfl, hk2⟩; have c0 := hk2.cell (sh_new w1 (.int .i64 52) (.int .i64 (-1074)) (.int .i64 11) 141).1 (fun h => h); have c1 := hk2.cell (sh_new w1 (.int .i64 52) (.int .i64 (-1074)) (.int .i64 11) 141).2.1 (fun h => h); have c2 := hk2.cell (sh_new w1 (.int .i64 52) (.int .i64 (-1074)) (.int .i64 11) 141).2.2 (fun h => h); have HK2 := Lib.hid (HK1.out.then_ hk2); clear hk2) | (go_at_call 71; go_must (refine (HINF.out _).mono ?_); rintro e w3 ⟨rfl, hk3⟩; have c0 := hk3.cell c0 (fun h => h); have c1 := hk3.cell c1 (fun h => h); have c2 := hk3.cell c2 (fun h => h); have HK2 := Lib.hid (HK2.out.then_ hk3); clear hk3))
    go_ret
    exact ⟨rfl, HK2.out⟩
  rw [if_neg h2]
  have d2 : ((size : Int) == 9218868437227405312) = false := by rw [beq_eq_false_iff_ne]; omega
  by_cases h3 : size = 0
  · rw [if_pos h3]
    have d3 : ((size : Int) == 0) = true := by rw [beq_iff_eq]; omega
    clear h3
    go_enter Tryz.func66, Tryz.ntmps66
    go_wp2_with (first | (go_at_call 67; go_must (refine hof.mono ?_); rintro e w1 ⟨rfl, hk1⟩; have HK1 := Lib.hid (hk1.alloc (.cells #[.int .i64 52, .int .i64 (-1074), .int .i64 11] 141)); clear hk1) | (go_at_call 69; go_must (refine (HSPL.out _ HK1.out).mono ?_); rintro e w2 ⟨rfl, hk2⟩; have c0 := hk2.cell (sh_new w1 (.int .i64 52) (.int .i64 (-1074)) (.int .i64 11) 141).1 (fun h => h); have c1 := hk2.cell (sh_new w1 (.int .i64 52) (.int .i64 (-1074)) (.int .i64 11) 141).2.1 (fun h => h); have c2 := hk2.cell (sh_new w1 (.int .i64 52) (.int .i64 (-1074)) (.int .i64 11) 141).2.2 (fun h => h); have HK2 := Lib.hid (HK1.out.then_ hk2); clear hk2) | (go_at_call 71; go_must (refine (HINF.out _).mono ?_); rintro e w3 ⟨rfl, hk3⟩; have c0 := hk3.cell c0 (fun h => h); have c1 := hk3.cell c1 (fun h => h); have c2 := hk3.cell c2 (fun h => h); have HK2 := Lib.hid (HK2.out.then_ hk3); clear hk3))
    go_ret
    exact ⟨rfl, HK2.out⟩
  rw [if_neg h3]
  have d3 : ((size : Int) == 0) = false := by rw [beq_eq_false_iff_ne]; omega
  obtain ⟨kk, HKK⟩ : ∃ kk, Hid (size / 4503599627370496 = kk) := ⟨_, Lib.hid rfl⟩
  rw [HKK.out]
  have i1 : (size : Int) / 4503599627370496 = (kk : Int) := by rw [← HKK.out]; omega
  clear h1 h2 h3
  by_cases h4 : kk = 0
  · rw [if_pos h4]
    have d4 : ((kk : Int) == 0) = true := by rw [beq_iff_eq]; omega
    clear h4
    go_enter Tryz.func66, Tryz.ntmps66
    go_wp2_with (first | (go_at_call 67; go_must (refine hof.mono ?_); rintro e w1 ⟨rfl, hk1⟩; have HK1 := Lib.hid (hk1.alloc (.cells #[.int .i64 52, .int .i64 (-1074), .int .i64 11] 141)); clear hk1) | (go_at_call 69; go_must (refine (HSPL.out _ HK1.out).mono ?_); rintro e w2 ⟨rfl, hk2⟩; have c0 := hk2.cell (sh_new w1 (.int .i64 52) (.int .i64 (-1074)) (.int .i64 11) 141).1 (fun h => h); have c1 := hk2.cell (sh_new w1 (.int .i64 52) (.int .i64 (-1074)) (.int .i64 11) 141).2.1 (fun h => h); have c2 := hk2.cell (sh_new w1 (.int .i64 52) (.int .i64 (-1074)) (.int .i64 11) 141).2.2 (fun h => h); have HK2 := Lib.hid (HK1.out.then_ hk2); clear hk2) | (go_at_call 71; go_must (refine (HINF.out _).mono ?_); rintro e w3 ⟨rfl, hk3⟩; have c0 := hk3.cell c0 (fun h => h); have c1 := hk3.cell c1 (fun h => h); have c2 := hk3.cell c2 (fun h => h); have HK2 := Lib.hid (HK2.out.then_ hk3); clear hk3))
    go_ret
    exact ⟨rfl, HK2.out⟩
  · rw [if_neg h4]
    have d4 : ((kk : Int) == 0) = false := by rw [beq_eq_false_iff_ne]; omega
    clear h4
    go_enter Tryz.func66, Tryz.ntmps66
    go_wp2_with (first | (go_at_call 67; go_must (refine hof.mono ?_); rintro e w1 ⟨rfl, hk1⟩; have HK1 := Lib.hid (hk1.alloc (.cells #[.int .i64 52, .int .i64 (-1074), .int .i64 11] 141)); clear hk1) | (go_at_call 69; go_must (refine (HSPL.out _ HK1.out).mono ?_); rintro e w2 ⟨rfl, hk2⟩; have c0 := hk2.cell (sh_new w1 (.int .i64 52) (.int .i64 (-1074)) (.int .i64 11) 141).1 (fun h => h); have c1 := hk2.cell (sh_new w1 (.int .i64 52) (.int .i64 (-1074)) (.int .i64 11) 141).2.1 (fun h => h); have c2 := hk2.cell (sh_new w1 (.int .i64 52) (.int .i64 (-1074)) (.int .i64 11) 141).2.2 (fun h => h); have HK2 := Lib.hid (HK1.out.then_ hk2); clear hk2) | (go_at_call 71; go_must (refine (HINF.out _).mono ?_); rintro e w3 ⟨rfl, hk3⟩; have c0 := hk3.cell c0 (fun h => h); have c1 := hk3.cell c1 (fun h => h); have c2 := hk3.cell c2 (fun h => h); have HK2 := Lib.hid (HK2.out.then_ hk3); clear hk3))
    go_ret
    exact ⟨rfl, HK2.out⟩
set_option maxRecDepth 100000 in
theorem to6464_ok (x B : Nat) (hx : x < 18446744073709551616) (sa : Nat → Addr) (w : World) (g : GL B sa w) : Calls Tryz.prog 43 #[.int .u64 (x : Int)] w fun e w' => (∃ same, e = .returned (.tuple #[.int .u64 ((to64N 52 (-1074) 11 x : Nat) : Int), .bool same])) ∧ Keep nob w w' := by
  have HP := Lib.hid (parts64_ok x B hx sa w g)
  have HG := Lib.hid (fun (wv : World) (hk : Keep nob w wv) => g.keep hk (fun _ h => h.elim))
  obtain ⟨Y, HY⟩ : ∃ Y, Hid (to64N 52 (-1074) 11 x = Y) := ⟨_, Lib.hid rfl⟩
  rw [HY.out]
  unfold to64N at HY
  clear g
  cases hp : partsN 52 (-1074) 11 x with
  | none =>
    rw [hp] at HP HY
    simp only [PartsE] at HP HY
    have HCL := Lib.hid (fun (wv : World) (hk : Keep nob w wv) => class64_ok x B hx sa wv (HG.out wv hk))
    have HSPL := Lib.hid (fun (wv : World) (hk : Keep nob w wv) => split64_ok x B hx sa wv (HG.out wv hk))
    have HOF := Lib.hid (fun (wv : World) (hk : Keep nob w wv) => of64_ok B sa wv (HG.out wv hk))
    unfold shV at HOF
    have HINF := Lib.hid sinf64_ok
    have HNAN := Lib.hid snan64_ok
    have hge : 9218868437227405312 ≤ x % 9223372036854775808 := by
      unfold partsN at hp
      simp only at hp
      split at hp
      · rename_i h; exact h
      · split at hp <;> cases hp
    have hcl : classN 52 11 x = if 9218868437227405312 < x % 9223372036854775808 then 5 else if x % 9223372036854775808 = 9218868437227405312 then 4 else if x % 9223372036854775808 = 0 then 1 else if x % 9223372036854775808 / 4503599627370496 = 0 then 2 else 3 := rfl
    have HY2 : Hid ((if x % 9223372036854775808 = 9218868437227405312 then signed64N (decide (9223372036854775808 ≤ x)) 9218868437227405312 else 9221120237041090560) = Y) := HY
    clear HY hp
    obtain ⟨size, HSZ⟩ : ∃ size, Hid (x % 9223372036854775808 = size) := ⟨_, Lib.hid rfl⟩
    obtain ⟨neg, HNG⟩ : ∃ neg, Hid (decide (9223372036854775808 ≤ x) = neg) := ⟨_, Lib.hid rfl⟩
    rw [HSZ.out] at hge hcl HY2 HSPL
    rw [HNG.out] at HY2 HSPL
    by_cases hn : 9218868437227405312 < size
    · rw [if_pos hn] at hcl
      rw [if_neg (by omega)] at HY2
      rw [hcl] at HCL
      have hY := HY2.out
      subst hY
      clear hcl hge hn
      go_enter Tryz.func43, Tryz.ntmps43
      go_wp2_with (first | (go_at_call 63; go_must (refine HP.out.mono ?_); rintro e w1 ⟨rfl, hk1⟩; have HK1 := Lib.hid hk1; clear hk1) | (go_at_call 66; go_must (refine (HCL.out _ HK1.out).mono ?_); rintro e w2 ⟨rfl, hk2⟩; have HK2 := Lib.hid (HK1.out.then_ hk2); clear hk2) | (go_at_call 67; go_must (refine (HOF.out _ HK2.out).mono ?_); rintro e w3 ⟨rfl, hk3⟩; have HK3 := Lib.hid (HK2.out.then_ hk3); clear hk3) | (go_at_call 68; go_must (refine (HNAN.out _).mono ?_); rintro e w5 ⟨rfl, hk5⟩; have HK5 := Lib.hid (HK3.out.then_ hk5); clear hk5))
      go_ret2
      exact ⟨⟨_, rfl⟩, HK5.out⟩
    · obtain rfl : size = 9218868437227405312 := by omega
      rw [if_neg hn, if_pos rfl] at hcl
      rw [if_pos rfl] at HY2
      rw [hcl] at HCL
      have HSG := Lib.hid (fun (wv : World) (hk : Keep nob w wv) => isigned64_ok neg 9218868437227405312 B (by decide) sa wv (HG.out wv hk))
      rw [HY2.out] at HSG
      clear hcl hge hn
      go_enter Tryz.func43, Tryz.ntmps43
      go_wp2_with (first | (go_at_call 63; go_must (refine HP.out.mono ?_); rintro e w1 ⟨rfl, hk1⟩; have HK1 := Lib.hid hk1; clear hk1) | (go_at_call 66; go_must (refine (HCL.out _ HK1.out).mono ?_); rintro e w2 ⟨rfl, hk2⟩; have HK2 := Lib.hid (HK1.out.then_ hk2); clear hk2) | (go_at_call 69; go_must (refine (HSPL.out _ HK2.out).mono ?_); rintro e w3 ⟨rfl, hk3⟩; have HK3 := Lib.hid (HK2.out.then_ hk3); clear hk3) | (go_at_call 67; go_must (refine (HOF.out _ HK3.out).mono ?_); rintro e w4 ⟨rfl, hk4⟩; have HK4 := Lib.hid (HK3.out.then_ hk4); clear hk4) | (go_at_call 71; go_must (refine (HINF.out _).mono ?_); rintro e w5 ⟨rfl, hk5⟩; have HK5 := Lib.hid (HK4.out.then_ hk5); clear hk5) | (go_at_call 70; go_must (refine (HSG.out _ HK5.out).mono ?_); rintro e w6 ⟨rfl, hk6⟩; have HK6 := Lib.hid (HK5.out.then_ hk6); clear hk6))
      go_ret2
      exact ⟨⟨_, rfl⟩, HK6.out⟩
  | some y =>
    obtain ⟨neg, m, e⟩ := y
    have hbd := @parts_bd 52 11 x (-1074) (by decide) (by decide) (by decide) (by decide) (by decide) neg m e hp
    rw [hp] at HP HY
    simp only [PartsE] at HP HY
    obtain ⟨hm, he1, he2⟩ := hbd
    have hylt : Y < 18446744073709551616 := by rw [← HY.out]; exact exact64_lt hm he1
    have HQ := Lib.hid (fun (wv : World) (hk : Keep nob w wv) => parts64_ok Y B hylt sa wv (HG.out wv hk))
    obtain ⟨t1, t2⟩ := two32_num (x := m) (by omega)
    have HF := Lib.hid (fun wv : World => nFrom_ok m (by omega) wv)
    rw [t1, t2] at HF
    have HR := Lib.hid (fun (A : Option Addr) (wv : World) (hk : Keep nob w wv) (h : Sl EU wv A (numL m).length (numL m)) => round64_ok neg A m B e hm he1 he2 sa wv (HG.out wv hk) h)
    rw [HY.out] at HR
    obtain ⟨N1, HN1⟩ : ∃ N1, Hid (numL m = N1) := ⟨_, Lib.hid rfl⟩
    rw [HN1.out] at HF HR
    obtain ⟨L1, HL1⟩ : ∃ L1, Hid (N1.length = L1) := ⟨_, Lib.hid rfl⟩
    rw [HL1.out] at HF HR
    clear t1 t2 hm he1 he2 hylt hp
    cases hq : partsN 52 (-1074) 11 Y with
    | none =>
      rw [hq] at HQ
      simp only [PartsE] at HQ
      go_enter Tryz.func43, Tryz.ntmps43
      go_wp2_with (first | (go_at_call 63; refine (HQ.out _ HK3.out).mono ?_; rintro e w4 ⟨rfl, hk4⟩; have HK4 := Lib.hid (HK3.out.then_ hk4); clear hk4) | (go_at_call 63; go_must (refine HP.out.mono ?_); rintro e w1 ⟨rfl, hk1⟩; have HK1 := Lib.hid hk1; clear hk1) | (go_at_call 65; go_must (refine (HF.out _).mono ?_); rintro e w2 ⟨hk2, A1, rfl, hs2, hl2⟩; have HK2 := Lib.hid (HK1.out.then_ hk2); have HS2 := Lib.hid hs2; clear hk2 hs2 hl2) | (go_at_call 72; go_must (refine (HR.out _ _ HK2.out HS2.out).mono ?_); rintro e w3 ⟨rfl, hk3⟩; have HK3 := Lib.hid (HK2.out.then_ hk3); clear hk3))
      go_ret2
      exact ⟨⟨_, rfl⟩, HK4.out⟩
    | some z =>
      obtain ⟨neg2, m2, e2⟩ := z
      rw [hq] at HQ
      simp only [PartsE] at HQ
      clear hq
      by_cases hm2 : m2 = m
      · have d1 : ((m2 : Int) == (m : Int)) = true := by rw [beq_iff_eq, hm2]
        clear hm2
        go_enter Tryz.func43, Tryz.ntmps43
        go_wp2_with (first | (go_at_call 63; refine (HQ.out _ HK3.out).mono ?_; rintro e w4 ⟨rfl, hk4⟩; have HK4 := Lib.hid (HK3.out.then_ hk4); clear hk4) | (go_at_call 63; go_must (refine HP.out.mono ?_); rintro e w1 ⟨rfl, hk1⟩; have HK1 := Lib.hid hk1; clear hk1) | (go_at_call 65; go_must (refine (HF.out _).mono ?_); rintro e w2 ⟨hk2, A1, rfl, hs2, hl2⟩; have HK2 := Lib.hid (HK1.out.then_ hk2); have HS2 := Lib.hid hs2; clear hk2 hs2 hl2) | (go_at_call 72; go_must (refine (HR.out _ _ HK2.out HS2.out).mono ?_); rintro e w3 ⟨rfl, hk3⟩; have HK3 := Lib.hid (HK2.out.then_ hk3); clear hk3))
        go_ret2
        exact ⟨⟨_, rfl⟩, HK4.out⟩
      · have d1 : ((m2 : Int) == (m : Int)) = false := by rw [beq_eq_false_iff_ne]; omega
        clear hm2
        go_enter Tryz.func43, Tryz.ntmps43
        go_wp2_with (first | (go_at_call 63; refine (HQ.out _ HK3.out).mono ?_; rintro e w4 ⟨rfl, hk4⟩; have HK4 := Lib.hid (HK3.out.then_ hk4); clear hk4) | (go_at_call 63; go_must (refine HP.out.mono ?_); rintro e w1 ⟨rfl, hk1⟩; have HK1 := Lib.hid hk1; clear hk1) | (go_at_call 65; go_must (refine (HF.out _).mono ?_); rintro e w2 ⟨hk2, A1, rfl, hs2, hl2⟩; have HK2 := Lib.hid (HK1.out.then_ hk2); have HS2 := Lib.hid hs2; clear hk2 hs2 hl2) | (go_at_call 72; go_must (refine (HR.out _ _ HK2.out HS2.out).mono ?_); rintro e w3 ⟨rfl, hk3⟩; have HK3 := Lib.hid (HK2.out.then_ hk3); clear hk3))
        go_ret2
        exact ⟨⟨_, rfl⟩, HK4.out⟩
end Go.Proofs.YteekndchkgdccaaGreatDoor

/- number.Of; packread's families of floats. -/
namespace Go.Proofs.YteekndchkgdccaaGreatDoor
open Go.RowKit

set_option maxRecDepth 100000 in
theorem of64v_ok (x B : Nat) (hx : x < 18446744073709551616) (sa : Nat → Addr) (w : World) (g : GL B sa w) : Calls Tryz.prog 23 #[.int .u64 (x : Int)] w fun e w' => Keep nob w w' ∧ ∃ r, e = .returned (ER.val r) ∧ Tr w' (fun k => w.heap.size ≤ k) r (ofV 52 (-1074) 11 x) := by
  obtain ⟨w0, b4, HW0, HB4, HK0, HT0, HL0⟩ := start w
  have HI := int64_ok x B hx sa w0 (g.keep HK0.out (fun _ h => h.elim))
  have HG := Lib.hid (fun (wv : World) (hk : Keep nob w0 wv) => to6464_ok x B hx sa wv ((g.keep HK0.out (fun _ h => h.elim)).keep hk (fun _ h => h.elim)))
  obtain ⟨Y, HY⟩ : ∃ Y, Hid (ofV 52 (-1074) 11 x = Y) := ⟨_, Lib.hid rfl⟩
  rw [HY.out]
  unfold ofV at HY
  clear g
  obtain ⟨I, HID⟩ : ∃ I, Hid (intN 52 (-1074) 11 x = I) := ⟨_, Lib.hid rfl⟩
  rw [HID.out] at HI HY
  cases I with
  | some y =>
    obtain ⟨gg, v⟩ := y
    dsimp only at HY
    unfold IntPost intV at HI
    dsimp only at HI
    obtain ⟨N2, HN2⟩ : ∃ N2, Hid (numL v = N2) := ⟨_, Lib.hid rfl⟩
    rw [HN2.out] at HI HY
    obtain ⟨L2, HL2⟩ : ∃ L2, Hid (N2.length = L2) := ⟨_, Lib.hid rfl⟩
    rw [HL2.out] at HI
    have HI := Lib.hid HI
    go_enter Tryz.func23, Tryz.ntmps23
    go_upto_region 1 with (fail)
    rw [HW0.out, HB4.out]
    go_wp2_with (go_at_call 42; go_must (refine HI.out.mono ?_); rintro e w1 ⟨hk1, A3, rfl, hs1, hl1⟩; have HK1 := Lib.hid hk1; have HS1 := Lib.hid hs1; have HL1 := Lib.hid hl1; clear hk1 hs1 hl1; have hka : Keep nob w1 (w1.alloc (.cells #[.bool gg, .slice A3 L2 L2] 32)) := (Keep.refl _ _).alloc _; have HKA := Lib.hid hka; obtain ⟨v0, v1, v2, v3, v4, v5, v6, v7, ⟨d0, d1, d2, d3, d4, d5, d6, d7⟩, f0, f1, f2, f3, f4, f5, f6, f7⟩ := eight ((HT0.out.keep' HK1.out).keep' HKA.out))
    obtain ⟨w2, e2, r2, k2⟩ := put8 ((HT0.out.keep' HK1.out).keep' HKA.out) ⟨3, 0, gg, A3, L2, L2, 0, 0, ⟨#[]⟩, none, 0, 0⟩ (.int .i8 3) (.int .u64 0) (.bool gg) (.slice A3 L2 L2) (.int .u64 0) (.int .i8 0) (.string ⟨#[]⟩) (.slice none 0 0) rfl
    rw [e2.out]
    have hL := HL0.out
    have hz1 := HK1.out.size
    refine ret_v rfl rfl rfl r2 ⟨((HK0.out.then_ HK1.out).then_ HKA.out).trans k2 (fun k h1 h2 => by omega), _, rfl, ?_⟩
    rw [← HY.out]
    exact Tr.int ((HS1.out.keep HKA.out (fun ⟨_, _, h⟩ => h)).keepD k2 HL1.out (fun k hk e => by omega)) (HL1.out.mono HS1.out (fun k _ hk => by omega)) HL2.out
  | none =>
    dsimp only at HY
    unfold IntPost intV at HI
    dsimp only at HI
    have HI := Lib.hid HI
    obtain ⟨q, HQ⟩ : ∃ q, Hid (to64N 52 (-1074) 11 x = q) := ⟨_, Lib.hid rfl⟩
    rw [HQ.out] at HG HY
    go_enter Tryz.func23, Tryz.ntmps23
    go_upto_region 1 with (fail)
    rw [HW0.out, HB4.out]
    go_wp2_with (first | (go_at_call 42; go_must (refine HI.out.mono ?_); rintro e w1 ⟨hk1, rfl⟩; have HK1 := Lib.hid hk1; clear hk1; have hka : Keep nob w1 (w1.alloc (.cells #[.bool false, .slice none 0 0] 32)) := (Keep.refl _ _).alloc _; have HKA := Lib.hid (HK1.out.then_ hka); clear hka) | (go_at_call 43; go_must (refine (HG.out _ HKA.out).mono ?_); rintro e w3 ⟨⟨same, rfl⟩, hk3⟩; have HK3 := Lib.hid (HKA.out.then_ hk3); clear hk3; obtain ⟨v0, v1, v2, v3, v4, v5, v6, v7, ⟨d0, d1, d2, d3, d4, d5, d6, d7⟩, f0, f1, f2, f3, f4, f5, f6, f7⟩ := eight (HT0.out.keep' HK3.out)))
    obtain ⟨w2, e2, r2, k2⟩ := put8 (HT0.out.keep' HK3.out) ⟨4, 0, false, none, 0, 0, q, 0, ⟨#[]⟩, none, 0, 0⟩ (.int .i8 4) (.int .u64 0) (.bool false) (.slice none 0 0) (.int .u64 (q : Int)) (.int .i8 0) (.string ⟨#[]⟩) (.slice none 0 0) rfl
    rw [e2.out]
    have hL := HL0.out
    refine ret_v rfl rfl rfl r2 ⟨(HK0.out.then_ HK3.out).trans k2 (fun k h1 h2 => by omega), _, rfl, ?_⟩
    rw [← HY.out]
    exact Tr.flat _ _ _ _ _ _ _ _
end Go.Proofs.YteekndchkgdccaaGreatDoor
