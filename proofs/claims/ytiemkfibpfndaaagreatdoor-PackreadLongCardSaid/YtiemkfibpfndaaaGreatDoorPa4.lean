/- packread.pick: the family of a first byte. -/
import Derived.Deep.MidRow
import Derived.Laws.IdiomStrings
import Derived.Laws.BitsAllLaws
import Derived.Shelf.Spec.TrailingZeros
import Derived.Lib.BitFns
import Derived.Deep.Quiet
import Derived.BigQuiet
import Derived.Lib.TrailingZeros
import Derived.Test.YtiemkfibpfndaaaGreatDoorPa3
namespace Go.Proofs.YtiemkfibpfndaaaGreatDoor
open Go.RowKit
set_option maxRecDepth 100000 in
theorem pick_214 (b : Nat) (w : World) : Calls Tryz.prog 40 #[.pointer (some ⟨b, 0, none⟩), .int .u8 214] w (PickPost b w (some (.ext, 4, 0))) := by
  go_enter Tryz.func40, Tryz.ntmps40
  go_upto_region 56 with (first | (with_reducible refine then_nl ?_) | (with_reducible refine in_nl ?_) | (with_reducible refine then_rt ?_) | (with_reducible refine in_rt ?_) | (with_reducible refine then_exit ?_) | (with_reducible refine in_eq ?_) | (with_reducible refine in_ne (by decide) ?_))
  repeat go_step
  exact ret_fam rfl rfl rfl rfl (new2 _ _ _ _ _ _).1 (new2 _ _ _ _ _ _).2.1 (new2 _ _ _ _ _ _).2.2 ⟨((Keep.refl _ _).alloc _).alloc _, rfl⟩
set_option maxRecDepth 100000 in
theorem pick_215 (b : Nat) (w : World) : Calls Tryz.prog 40 #[.pointer (some ⟨b, 0, none⟩), .int .u8 215] w (PickPost b w (some (.ext, 8, 0))) := by
  go_enter Tryz.func40, Tryz.ntmps40
  go_upto_region 56 with (first | (with_reducible refine then_nl ?_) | (with_reducible refine in_nl ?_) | (with_reducible refine then_rt ?_) | (with_reducible refine in_rt ?_) | (with_reducible refine then_exit ?_) | (with_reducible refine in_eq ?_) | (with_reducible refine in_ne (by decide) ?_))
  repeat go_step
  exact ret_fam rfl rfl rfl rfl (new2 _ _ _ _ _ _).1 (new2 _ _ _ _ _ _).2.1 (new2 _ _ _ _ _ _).2.2 ⟨((Keep.refl _ _).alloc _).alloc _, rfl⟩
set_option maxRecDepth 100000 in
theorem pick_216 (b : Nat) (w : World) : Calls Tryz.prog 40 #[.pointer (some ⟨b, 0, none⟩), .int .u8 216] w (PickPost b w (some (.ext, 16, 0))) := by
  go_enter Tryz.func40, Tryz.ntmps40
  go_upto_region 56 with (first | (with_reducible refine then_nl ?_) | (with_reducible refine in_nl ?_) | (with_reducible refine then_rt ?_) | (with_reducible refine in_rt ?_) | (with_reducible refine then_exit ?_) | (with_reducible refine in_eq ?_) | (with_reducible refine in_ne (by decide) ?_))
  repeat go_step
  exact ret_fam rfl rfl rfl rfl (new2 _ _ _ _ _ _).1 (new2 _ _ _ _ _ _).2.1 (new2 _ _ _ _ _ _).2.2 ⟨((Keep.refl _ _).alloc _).alloc _, rfl⟩
set_option maxRecDepth 100000 in
theorem pick_217 (b : Nat) (w : World) : Calls Tryz.prog 40 #[.pointer (some ⟨b, 0, none⟩), .int .u8 217] w (PickPost b w (some (.text, 0, 1))) := by
  go_enter Tryz.func40, Tryz.ntmps40
  go_upto_region 63 with (first | (with_reducible refine then_nl ?_) | (with_reducible refine in_nl ?_) | (with_reducible refine then_rt ?_) | (with_reducible refine in_rt ?_) | (with_reducible refine then_exit ?_) | (with_reducible refine in_eq ?_) | (with_reducible refine in_ne (by decide) ?_))
  repeat go_step
  exact ret_fam rfl rfl rfl rfl (new2 _ _ _ _ _ _).1 (new2 _ _ _ _ _ _).2.1 (new2 _ _ _ _ _ _).2.2 ⟨((Keep.refl _ _).alloc _).alloc _, rfl⟩
set_option maxRecDepth 100000 in
theorem pick_218 (b : Nat) (w : World) : Calls Tryz.prog 40 #[.pointer (some ⟨b, 0, none⟩), .int .u8 218] w (PickPost b w (some (.text, 0, 2))) := by
  go_enter Tryz.func40, Tryz.ntmps40
  go_upto_region 63 with (first | (with_reducible refine then_nl ?_) | (with_reducible refine in_nl ?_) | (with_reducible refine then_rt ?_) | (with_reducible refine in_rt ?_) | (with_reducible refine then_exit ?_) | (with_reducible refine in_eq ?_) | (with_reducible refine in_ne (by decide) ?_))
  repeat go_step
  exact ret_fam rfl rfl rfl rfl (new2 _ _ _ _ _ _).1 (new2 _ _ _ _ _ _).2.1 (new2 _ _ _ _ _ _).2.2 ⟨((Keep.refl _ _).alloc _).alloc _, rfl⟩
set_option maxRecDepth 100000 in
theorem pick_219 (b : Nat) (w : World) : Calls Tryz.prog 40 #[.pointer (some ⟨b, 0, none⟩), .int .u8 219] w (PickPost b w (some (.text, 0, 4))) := by
  go_enter Tryz.func40, Tryz.ntmps40
  go_upto_region 63 with (first | (with_reducible refine then_nl ?_) | (with_reducible refine in_nl ?_) | (with_reducible refine then_rt ?_) | (with_reducible refine in_rt ?_) | (with_reducible refine then_exit ?_) | (with_reducible refine in_eq ?_) | (with_reducible refine in_ne (by decide) ?_))
  repeat go_step
  exact ret_fam rfl rfl rfl rfl (new2 _ _ _ _ _ _).1 (new2 _ _ _ _ _ _).2.1 (new2 _ _ _ _ _ _).2.2 ⟨((Keep.refl _ _).alloc _).alloc _, rfl⟩
set_option maxRecDepth 100000 in
theorem pick_220 (b : Nat) (w : World) : Calls Tryz.prog 40 #[.pointer (some ⟨b, 0, none⟩), .int .u8 220] w (PickPost b w (some (.list, 0, 2))) := by
  go_enter Tryz.func40, Tryz.ntmps40
  go_upto_region 60 with (first | (with_reducible refine then_nl ?_) | (with_reducible refine in_nl ?_) | (with_reducible refine then_rt ?_) | (with_reducible refine in_rt ?_) | (with_reducible refine then_exit ?_) | (with_reducible refine in_eq ?_) | (with_reducible refine in_ne (by decide) ?_))
  repeat go_step
  exact ret_fam rfl rfl rfl rfl (new2 _ _ _ _ _ _).1 (new2 _ _ _ _ _ _).2.1 (new2 _ _ _ _ _ _).2.2 ⟨((Keep.refl _ _).alloc _).alloc _, rfl⟩
set_option maxRecDepth 100000 in
theorem pick_221 (b : Nat) (w : World) : Calls Tryz.prog 40 #[.pointer (some ⟨b, 0, none⟩), .int .u8 221] w (PickPost b w (some (.list, 0, 4))) := by
  go_enter Tryz.func40, Tryz.ntmps40
  go_upto_region 60 with (first | (with_reducible refine then_nl ?_) | (with_reducible refine in_nl ?_) | (with_reducible refine then_rt ?_) | (with_reducible refine in_rt ?_) | (with_reducible refine then_exit ?_) | (with_reducible refine in_eq ?_) | (with_reducible refine in_ne (by decide) ?_))
  repeat go_step
  exact ret_fam rfl rfl rfl rfl (new2 _ _ _ _ _ _).1 (new2 _ _ _ _ _ _).2.1 (new2 _ _ _ _ _ _).2.2 ⟨((Keep.refl _ _).alloc _).alloc _, rfl⟩
set_option maxRecDepth 100000 in
theorem pick_222 (b : Nat) (w : World) : Calls Tryz.prog 40 #[.pointer (some ⟨b, 0, none⟩), .int .u8 222] w (PickPost b w (some (.pairs, 0, 2))) := by
  go_enter Tryz.func40, Tryz.ntmps40
  go_upto_region 61 with (first | (with_reducible refine then_nl ?_) | (with_reducible refine in_nl ?_) | (with_reducible refine then_rt ?_) | (with_reducible refine in_rt ?_) | (with_reducible refine then_exit ?_) | (with_reducible refine in_eq ?_) | (with_reducible refine in_ne (by decide) ?_))
  repeat go_step
  exact ret_fam rfl rfl rfl rfl (new2 _ _ _ _ _ _).1 (new2 _ _ _ _ _ _).2.1 (new2 _ _ _ _ _ _).2.2 ⟨((Keep.refl _ _).alloc _).alloc _, rfl⟩
set_option maxRecDepth 100000 in
theorem pick_223 (b : Nat) (w : World) : Calls Tryz.prog 40 #[.pointer (some ⟨b, 0, none⟩), .int .u8 223] w (PickPost b w (some (.pairs, 0, 4))) := by
  go_enter Tryz.func40, Tryz.ntmps40
  go_upto_region 61 with (first | (with_reducible refine then_nl ?_) | (with_reducible refine in_nl ?_) | (with_reducible refine then_rt ?_) | (with_reducible refine in_rt ?_) | (with_reducible refine then_exit ?_) | (with_reducible refine in_eq ?_) | (with_reducible refine in_ne (by decide) ?_))
  repeat go_step
  exact ret_fam rfl rfl rfl rfl (new2 _ _ _ _ _ _).1 (new2 _ _ _ _ _ _).2.1 (new2 _ _ _ _ _ _).2.2 ⟨((Keep.refl _ _).alloc _).alloc _, rfl⟩
end Go.Proofs.YtiemkfibpfndaaaGreatDoor

/- packread.pick: the family of a first byte. -/
namespace Go.Proofs.YtiemkfibpfndaaaGreatDoor
open Go.RowKit

theorem pick_ok (b c : Nat) (hc : c < 256) (w : World) : Calls Tryz.prog 40 #[.pointer (some ⟨b, 0, none⟩), .int .u8 (c : Int)] w (PickPost b w (pickN c)) := by
  by_cases h1 : c < 128
  · rw [show pickN c = some (.whole, c, 0) by unfold pickN; rw [if_pos h1]]
    exact pick_a b c h1 w
  by_cases h2 : c < 144
  · rw [show pickN c = some (.pairs, c % 16, 0) by unfold pickN; rw [if_neg h1, if_pos h2]]
    exact pick_b b c (by omega) h2 w
  by_cases h3 : c < 160
  · rw [show pickN c = some (.list, c % 16, 0) by unfold pickN; rw [if_neg h1, if_neg h2, if_pos h3]]
    exact pick_c b c (by omega) h3 w
  by_cases h4 : c < 192
  · rw [show pickN c = some (.text, c % 32, 0) by unfold pickN; rw [if_neg h1, if_neg h2, if_neg h3, if_pos h4]]
    exact pick_d b c (by omega) h4 w
  by_cases h5 : 224 ≤ c
  · rw [show pickN c = some (.below, 256 - c, 0) by unfold pickN; rw [if_neg h1, if_neg h2, if_neg h3, if_neg h4, if_pos h5]]
    exact pick_e b c h5 hc w
  rcases (show c = 192 ∨ c = 193 ∨ c = 194 ∨ c = 195 ∨ c = 196 ∨ c = 197 ∨ c = 198 ∨ c = 199 ∨ c = 200 ∨ c = 201 ∨ c = 202 ∨ c = 203 ∨ c = 204 ∨ c = 205 ∨ c = 206 ∨ c = 207 ∨ c = 208 ∨ c = 209 ∨ c = 210 ∨ c = 211 ∨ c = 212 ∨ c = 213 ∨ c = 214 ∨ c = 215 ∨ c = 216 ∨ c = 217 ∨ c = 218 ∨ c = 219 ∨ c = 220 ∨ c = 221 ∨ c = 222 ∨ c = 223 by omega) with rfl | rfl | rfl | rfl | rfl | rfl | rfl | rfl | rfl | rfl | rfl | rfl | rfl | rfl | rfl | rfl | rfl | rfl | rfl | rfl | rfl | rfl | rfl | rfl | rfl | rfl | rfl | rfl | rfl | rfl | rfl | rfl
  · exact pick_192 b w
  · exact pick_193 b w
  · exact pick_194 b w
  · exact pick_195 b w
  · exact pick_196 b w
  · exact pick_197 b w
  · exact pick_198 b w
  · exact pick_199 b w
  · exact pick_200 b w
  · exact pick_201 b w
  · exact pick_202 b w
  · exact pick_203 b w
  · exact pick_204 b w
  · exact pick_205 b w
  · exact pick_206 b w
  · exact pick_207 b w
  · exact pick_208 b w
  · exact pick_209 b w
  · exact pick_210 b w
  · exact pick_211 b w
  · exact pick_212 b w
  · exact pick_213 b w
  · exact pick_214 b w
  · exact pick_215 b w
  · exact pick_216 b w
  · exact pick_217 b w
  · exact pick_218 b w
  · exact pick_219 b w
  · exact pick_220 b w
  · exact pick_221 b w
  · exact pick_222 b w
  · exact pick_223 b w
end Go.Proofs.YtiemkfibpfndaaaGreatDoor

/- What a store of an element leaves of a slice of one's own. -/
namespace Go.Proofs.YtiemkfibpfndaaaGreatDoor
open Go.RowKit
section
variable {α : Type} {E : El α} {w : World}
theorem range_put {b o i : Nat} {xs : List α} (hr : w.rangeAt b o (E.flat xs)) (hi : i < xs.length) (ht : w.there b (o + i * E.sz) E.sz) (y : α) :
    (w.setCells b (o + i * E.sz) (E.cells y)).rangeAt b o (E.flat (xs.set i y)) := by
  have hx : xs = xs.take i ++ (xs[i] :: xs.drop (i + 1)) := by simp
  have hs : xs.set i y = xs.take i ++ (y :: xs.drop (i + 1)) := by rw [List.set_eq_take_append_cons_drop, if_pos hi]
  have hl : (xs.take i).length = i := by simp; omega
  rw [hx, E.flat_app, E.flat_cons, range_app, range_app, E.flat_len, hl, E.len] at hr
  rw [hs, E.flat_app, E.flat_cons, range_app, range_app, E.flat_len, hl, E.len]
  refine ⟨World.rangeAt_setCells_apart hr.1 _ _ _ (.inr (.inl ?_)), World.rangeAt_setCells_same _ _ _ _ (by rw [E.len]; exact ht), World.rangeAt_setCells_apart hr.2.2 _ _ _ (.inr (.inr ?_))⟩
  · rw [E.flat_len, hl]; exact Nat.le_refl _
  · rw [E.len]; exact Nat.le_refl _
theorem Ow.put {b o c i : Nat} {xs : List α} (h : Ow E w (some ⟨b, o, none⟩) c xs) (hi : i < xs.length) (y : α) :
    Ow E (w.setCells b (o + i * E.sz) (E.cells y)) (some ⟨b, o, none⟩) c (xs.set i y) := by
  have hle := h.sl.le
  obtain ⟨b', o', e', ht⟩ := h.room (by omega)
  simp only [Option.some.injEq, Addr.mk.injEq, and_true] at e'
  obtain ⟨rfl, rfl⟩ := e'
  have h1 : i * E.sz + E.sz ≤ c * E.sz := by
    rw [← Nat.succ_mul]
    exact Nat.mul_le_mul_right _ (by omega)
  refine ⟨⟨by simpa using h.sl.le, h.sl.cap, fun _ => ⟨b, o, rfl, ?_⟩⟩, fun _ => ⟨b, o, rfl, World.there_setCells ht _ _ _⟩⟩
  obtain ⟨b', o', e', hr⟩ := h.sl.at_ (fun e => by subst e; simp at hi)
  simp only [Option.some.injEq, Addr.mk.injEq, and_true] at e'
  obtain ⟨rfl, rfl⟩ := e'
  exact range_put hr hi (there_sub ht (by omega) (by omega)) y
end
end Go.Proofs.YtiemkfibpfndaaaGreatDoor

/- whole.flip: bytes turned about. -/
namespace Go.Proofs.YtiemkfibpfndaaaGreatDoor
open Go.RowKit

/-- a byte -/
def EB : El Nat where
  sz := 1
  pos := by decide
  cells := fun x => [.int .u8 (x : Int)]
  len := fun _ => rfl
  one := fun x v h => by simp at h; subst h; rfl
  val := fun x => .int .u8 (x : Int)
/-- each byte turned about, from the end on, and what is carried added -/
def flipF (l : List Nat) (c : Nat) : Nat → List Nat
  | 0 => l
  | i + 1 => flipF (l.set i ((255 - l.getD i 0 + c) % 256)) (if (255 - l.getD i 0 + c) % 256 = 0 then c else 0) i
def B8 (l : List Nat) : Prop := ∀ x ∈ l, x < 256
theorem B8.set {l : List Nat} (h : B8 l) (i : Nat) {y : Nat} (hy : y < 256) : B8 (l.set i y) := fun x hx => by
  rcases List.mem_or_eq_of_mem_set hx with hx | rfl
  · exact h x hx
  · exact hy
theorem B8.bl (s : ByteArray) : B8 (bl s) := fun x hx => by
  simp only [Proofs.YtiemkfibpfndaaaGreatDoor.bl, List.mem_map] at hx
  obtain ⟨u, _, rfl⟩ := hx
  exact UInt8.toNat_lt u

theorem not8_all : ∀ x : Fin 256, bits .xor .u8 (if IntKind.u8.signed = true then -1 else IntKind.u8.max) ((x.val : Nat) : Int) = ((255 - x.val : Nat) : Int) := by decide +kernel
theorem not8 {x : Nat} (h : x < 256) : bits .xor .u8 (if IntKind.u8.signed = true then -1 else IntKind.u8.max) (x : Int) = ((255 - x : Nat) : Int) := not8_all ⟨x, h⟩
set_option maxRecDepth 100000 in
theorem flip_ok (b c n : Nat) (l : List Nat) (w : World) (hl : l.length = n) (h : Ow EB w (some ⟨b, 0, none⟩) c l) (hb : B8 l) (hn : n ≤ 1000000000) :
    Calls Tryz.prog 133 #[.slice (some ⟨b, 0, none⟩) n c] w fun e w' => e = .returned (.tuple #[]) ∧ Keep (· = b) w w' ∧ Ow EB w' (some ⟨b, 0, none⟩) c (flipF l 1 n) := by
  have HH := Lib.hid h
  have HL := Lib.hid hl
  have HB8 := Lib.hid hb
  clear h hl hb
  have i1 : IntKind.i64.wrap ((n : Int) - 1) = (n : Int) - 1 := by rw [IntWalk.i64_left, IntWalk.wrap64_in _ ⟨by omega, by omega⟩]
  go_enter Tryz.func133, Tryz.ntmps133
  go_wp2_with (fail)
  go_loopw [2, 3] (fun u2 u3 wr => ∃ (i cy : Nat) (cur : List Nat), i ≤ n ∧ cy ≤ 1 ∧ u2 = .int .u8 (cy : Int) ∧ u3 = .int .i64 ((i : Int) - 1) ∧ Hid (flipF cur cy i = flipF l 1 n) ∧ Hid (cur.length = n) ∧ Hid (B8 cur) ∧ Hid (Ow EB wr (some ⟨b, 0, none⟩) c cur) ∧ Hid (Keep (· = b) w wr)) (fun _ u3 _ => (intOf u3 + 1).toNat)
  case atStart => exact ⟨n, 1, l, Nat.le_refl _, Nat.le_refl _, rfl, rfl, Lib.hid rfl, HL, HB8, HH, Lib.hid (Keep.refl _ _)⟩
  case round =>
    obtain ⟨i, cy, cur, hi, hcy, rfl, rfl, HF, HC, HB, HO, HK⟩ := hrel
    rcases Nat.eq_zero_or_pos i with h0 | h0
    · subst h0
      go_wp2
      refine bodyPost_end (results_none rfl _ _ _) rfl ?_
      rw [← HF.out]
      exact ⟨rfl, HK.out, HO.out⟩
    · obtain ⟨q, rfl⟩ : ∃ q, i = q + 1 := ⟨i - 1, by omega⟩
      have e1 : ((q + 1 : Nat) : Int) - 1 = (q : Int) := by omega
      rw [e1]
      have hq := hi
      have hqc : q < cur.length := by rw [HC.out]; omega
      obtain ⟨b1, o1, hbo, hx⟩ := HO.out.sl.elem (i := q) hqc
      simp only [Option.some.injEq, Addr.mk.injEq, and_true] at hbo
      obtain ⟨rfl, rfl⟩ := hbo
      have hx1 := hx 0 _ rfl
      simp only [EB, Nat.add_zero, Nat.mul_one, Nat.zero_add] at hx1
      obtain ⟨x, HX⟩ : ∃ x, Hid (cur.getD q 0 = x) := ⟨_, Lib.hid rfl⟩
      have hcx : cur[q] = x := by rw [← HX.out, List.getD_eq_getElem?_getD, List.getElem?_eq_getElem hqc]; rfl
      have HX2 : Hid (x < 256) := by unfold Hid; rw [← hcx]; exact HB.out _ (List.getElem_mem _)
      rw [hcx] at hx1
      clear hx hcx
      have hq0 : (0 : Int) ≤ (q : Int) := by omega
      have hq1 : (q : Int) < (n : Int) := by omega
      have hfz : wr.frozen? ⟨b, q, none⟩ = false := by
        obtain ⟨b', o', e', ht⟩ := HO.out.room (by have := HO.out.sl.le; omega)
        simp only [Option.some.injEq, Addr.mk.injEq, and_true] at e'
        obtain ⟨rfl, rfl⟩ := e'
        have := (ht q (by have := HO.out.sl.le; simp only [EB]; omega)).2
        rwa [Nat.zero_add] at this
      have HQC := Lib.hid hqc
      clear hqc
      have hxor := not8 HX2.out
      obtain ⟨y, HY⟩ : ∃ y, Hid ((255 - x + cy) % 256 = y) := ⟨_, Lib.hid rfl⟩
      have hy : (((255 - x : Nat) : Int) + (cy : Int)) % 256 = (y : Int) := by rw [← HY.out]; omega
      have HPUT := Lib.hid (HO.out.put HQC.out y)
      have HKP : Hid (Keep (· = b) w (wr.setCell ⟨b, q, none⟩ (.int .u8 (y : Int)))) := Lib.hid (HK.out.setCell (fun _ => rfl) _)
      have hnew : (wr.setCell ⟨b, q, none⟩ (.int .u8 (y : Int))).cell? ⟨b, q, none⟩ = some (.int .u8 (y : Int)) := World.cell?_setCell_same _ _ _ hx1
      have HPE : Hid (wr.setCells b (0 + q * EB.sz) (EB.cells y) = wr.setCell ⟨b, q, none⟩ (.int .u8 (y : Int))) := by
        unfold Hid
        simp [EB, World.setCells]
      rw [HPE.out] at HPUT
      have hF : Hid (flipF (cur.set q y) (if y = 0 then cy else 0) q = flipF l 1 n) := by
        unfold Hid
        rw [← HF.out, flipF, HX.out, HY.out]
      have hcl : Hid ((cur.set q y).length = n) := by unfold Hid; rw [List.length_set, HC.out]
      have hb8 : Hid (B8 (cur.set q y)) := Lib.hid (HB.out.set q (by rw [← HY.out]; omega))
      have i2 : IntKind.i64.wrap ((q : Int) - 1) = (q : Int) - 1 := by rw [IntWalk.i64_left, IntWalk.wrap64_in _ ⟨by omega, by omega⟩]
      go_upto_region 5 with (fail)
      obtain ⟨wn, HWN⟩ : ∃ wn, Hid (wr.setCell ⟨b, q, none⟩ (.int .u8 (y : Int)) = wn) := ⟨_, Lib.hid rfl⟩
      rw [HWN.out] at HPUT HKP hnew ⊢
      by_cases hy0 : y = 0
      · subst hy0
        go_wp2
        exact ⟨⟨q, cy, _, by omega, hcy, rfl, rfl, hF, hcl, hb8, HPUT, HKP⟩, by simp [intOf]⟩
      · have hyi : ¬ (y : Int) = 0 := by omega
        rw [if_neg hy0] at hF
        go_wp2
        exact ⟨⟨q, 0, _, by omega, Nat.zero_le _, rfl, rfl, hF, hcl, hb8, HPUT, HKP⟩, by simp [intOf]⟩
end Go.Proofs.YtiemkfibpfndaaaGreatDoor

/- Natural numbers as lists of limbs: what a list is worth, the list of a number. Plain Lean. -/
namespace Go.Proofs.YtiemkfibpfndaaaGreatDoor

def B32 : Nat := 4294967296
/-- what a list of limbs is worth -/
def valL : List Nat → Nat
  | [] => 0
  | x :: l => x + 4294967296 * valL l
/-- all limbs have 32 bits -/
def Bd (l : List Nat) : Prop := ∀ x ∈ l, x < 4294967296
/-- so many limbs of a number -/
def limbsF : Nat → Nat → List Nat
  | 0, _ => []
  | f + 1, x => x % 4294967296 :: limbsF f (x / 4294967296)
/-- the limbs of a number, no noughts at their end -/
def numL (x : Nat) : List Nat := if x = 0 then [] else limbsF (x.log2 / 32 + 1) x
/-- no noughts at its end -/
def Nrm : List Nat → Prop
  | [] => True
  | [x] => x ≠ 0
  | _ :: y :: l => Nrm (y :: l)

theorem Bd.nil : Bd [] := fun _ h => by simp at h
theorem Bd.cons {x : Nat} {l : List Nat} (hx : x < 4294967296) (h : Bd l) : Bd (x :: l) := fun y hy => by
  rcases List.mem_cons.1 hy with rfl | hy
  · exact hx
  · exact h y hy
theorem Bd.tail {x : Nat} {l : List Nat} (h : Bd (x :: l)) : Bd l := fun y hy => h y (List.mem_cons_of_mem _ hy)
theorem Bd.head {x : Nat} {l : List Nat} (h : Bd (x :: l)) : x < 4294967296 := h x List.mem_cons_self
theorem Bd.take {l : List Nat} (h : Bd l) (n : Nat) : Bd (l.take n) := fun y hy => h y (List.mem_of_mem_take hy)
theorem Bd.getD {l : List Nat} (h : Bd l) (i : Nat) : l.getD i 0 < 4294967296 := by
  rw [List.getD_eq_getElem?_getD]
  cases hx : l[i]? with
  | none => decide
  | some x => exact h x (List.mem_of_getElem? hx)
theorem limbsF_len : ∀ f x, (limbsF f x).length = f
  | 0, _ => rfl
  | f + 1, x => by simp [limbsF, limbsF_len f]
theorem limbsF_bd : ∀ f x, Bd (limbsF f x)
  | 0, _ => Bd.nil
  | f + 1, x => Bd.cons (by omega) (limbsF_bd f _)
theorem limbsF_val : ∀ f x, valL (limbsF f x) = x % 4294967296 ^ f
  | 0, x => by simp [limbsF, valL, Nat.mod_one]
  | f + 1, x => by
    rw [limbsF, valL, limbsF_val f, Nat.pow_succ, Nat.mul_comm (4294967296 ^ f), Nat.mod_mul]
theorem valL_lt : ∀ {l : List Nat}, Bd l → valL l < 4294967296 ^ l.length
  | [], _ => by simp [valL]
  | x :: l, h => by
    have h1 := valL_lt h.tail
    have h2 := h.head
    rw [valL, List.length_cons, Nat.pow_succ]
    omega
theorem valL_app : ∀ (l l' : List Nat), valL (l ++ l') = valL l + 4294967296 ^ l.length * valL l'
  | [], l' => by simp [valL]
  | x :: l, l' => by
    rw [List.cons_append, valL, valL, valL_app l l', List.length_cons, Nat.pow_succ, Nat.mul_add, Nat.mul_comm (4294967296 ^ l.length) 4294967296, Nat.mul_assoc]
    omega
theorem limbs_of_val : ∀ {l : List Nat}, Bd l → limbsF l.length (valL l) = l
  | [], _ => rfl
  | x :: l, h => by
    have h1 := h.head
    rw [List.length_cons, limbsF, valL, show (x + 4294967296 * valL l) % 4294967296 = x by omega, show (x + 4294967296 * valL l) / 4294967296 = valL l by omega, limbs_of_val h.tail]
theorem Nrm.pos : ∀ {l : List Nat}, Nrm l → l ≠ [] → 4294967296 ^ (l.length - 1) ≤ valL l
  | [], _, h => absurd rfl h
  | [x], h, _ => by simp only [Nrm] at h; simp [valL]; omega
  | x :: y :: l, h, _ => by
    have h1 := Nrm.pos (l := y :: l) h (by simp)
    rw [valL]
    simp only [List.length_cons, Nat.add_sub_cancel] at h1 ⊢
    rw [Nat.pow_succ]
    omega
theorem pow32 (n : Nat) : 4294967296 ^ n = 2 ^ (32 * n) := by rw [Nat.pow_mul]
/-- a list in normal form is the list of its number -/
theorem numL_val {l : List Nat} (hb : Bd l) (hn : Nrm l) : numL (valL l) = l := by
  unfold numL
  by_cases h0 : l = []
  · subst h0; rfl
  · have h1 := hn.pos h0
    have h2 := valL_lt hb
    have hp : 0 < l.length := List.length_pos_iff.2 h0
    have h3 : 0 < 4294967296 ^ (l.length - 1) := Nat.pow_pos (by decide)
    have hz : valL l ≠ 0 := by omega
    rw [if_neg hz]
    rw [pow32] at h1 h2
    have e1 : 32 * (l.length - 1) ≤ (valL l).log2 := (Nat.le_log2 hz).2 h1
    have e2 : (valL l).log2 < 32 * l.length := (Nat.log2_lt hz).2 h2
    rw [show (valL l).log2 / 32 + 1 = l.length by omega]
    exact limbs_of_val hb
theorem numL_bd (x : Nat) : Bd (numL x) := by
  unfold numL
  split
  · exact Bd.nil
  · exact limbsF_bd _ _
theorem valL_numL (x : Nat) : valL (numL x) = x := by
  unfold numL
  split
  · rename_i h; rw [h]; rfl
  · rename_i h
    rw [limbsF_val, pow32]
    have h1 : x < 2 ^ (x.log2 + 1) := Nat.lt_log2_self
    refine Nat.mod_eq_of_lt (Nat.lt_of_lt_of_le h1 (Nat.pow_le_pow_right (by decide) (by omega)))
theorem limbsF_nrm : ∀ (f x : Nat), 4294967296 ^ f ≤ x → x < 4294967296 ^ (f + 1) → Nrm (limbsF (f + 1) x)
  | 0, x, h, h' => by
    simp only [limbsF, Nrm]
    simp at h h'
    omega
  | f + 1, x, h, h' => by
    have := limbsF_nrm f (x / 4294967296) (by rw [Nat.le_div_iff_mul_le (by decide), ← Nat.pow_succ]; exact h) (by rw [Nat.div_lt_iff_lt_mul (by decide), ← Nat.pow_succ]; exact h')
    exact this
theorem numL_nrm (x : Nat) : Nrm (numL x) := by
  unfold numL
  split
  · trivial
  · rename_i h
    refine limbsF_nrm _ _ ?_ ?_
    · rw [pow32]
      exact Nat.le_trans (Nat.pow_le_pow_right (by decide) (by omega)) (Nat.log2_self_le h)
    · rw [pow32]
      exact Nat.lt_of_lt_of_le Nat.lt_log2_self (Nat.pow_le_pow_right (by decide) (by omega))

/-! ### noughts at the end -/
theorem nrm_last : ∀ {l : List Nat}, (∀ h : l ≠ [], l.getLast h ≠ 0) → Nrm l
  | [], _ => trivial
  | [x], h => h (by simp)
  | x :: y :: l, h => nrm_last (l := y :: l) (fun h' => by have := h (by simp); rwa [List.getLast_cons h'] at this)
theorem Nrm.last : ∀ {l : List Nat}, Nrm l → ∀ h : l ≠ [], l.getLast h ≠ 0
  | [], _, h => absurd rfl h
  | [x], h, _ => h
  | x :: y :: l, h, _ => by rw [List.getLast_cons (by simp)]; exact Nrm.last (l := y :: l) h _
theorem cutN_last (l : List Nat) : ∀ n, 0 < cutN l n → l.getD (cutN l n - 1) 0 ≠ 0
  | 0, h => by simp [cutN] at h
  | n + 1, h => by
    unfold cutN at h ⊢
    split
    · rename_i h0; rw [if_pos h0] at h; exact cutN_last l n h
    · rename_i h0; simpa using h0
theorem cutN_zero (l : List Nat) : ∀ n i, cutN l n ≤ i → i < n → l.getD i 0 = 0
  | 0, _, _, h => by omega
  | n + 1, i, h, h' => by
    unfold cutN at h
    split at h
    · rename_i h0
      rcases Nat.lt_or_ge i n with h1 | h1
      · exact cutN_zero l n i h h1
      · rw [show i = n by omega]; exact h0
    · omega
theorem cutL_nrm (l : List Nat) : Nrm (cutL l) := by
  refine nrm_last (fun h => ?_)
  have hl := cutL_len l
  have hp : 0 < (cutL l).length := List.length_pos_iff.2 h
  rw [List.getLast_eq_getElem]
  have h1 := cutN_last l l.length (by omega)
  have hle := cutN_le l l.length
  rw [List.getD_eq_getElem?_getD, List.getElem?_eq_getElem (by omega)] at h1
  simp only [cutL, List.getElem_take, List.length_take]
  simp only [Nat.min_eq_left hle]
  exact h1
theorem valL_zero : ∀ {l : List Nat}, (∀ x ∈ l, x = 0) → valL l = 0
  | [], _ => rfl
  | x :: l, h => by rw [valL, h x List.mem_cons_self, valL_zero (fun y hy => h y (List.mem_cons_of_mem _ hy))]
theorem cutL_val (l : List Nat) : valL (cutL l) = valL l := by
  have e : l = cutL l ++ l.drop (cutN l l.length) := (List.take_append_drop _ _).symm
  conv => rhs; rw [e]
  rw [valL_app, valL_zero (l := l.drop _) (fun x hx => ?_)]
  · omega
  · obtain ⟨i, hi, rfl⟩ := List.getElem_of_mem hx
    rw [List.length_drop] at hi
    have := cutN_zero l l.length (cutN l l.length + i) (by omega) (by omega)
    rw [List.getD_eq_getElem?_getD, List.getElem?_eq_getElem (by omega)] at this
    rw [List.getElem_drop]
    exact this
theorem cutL_num {l : List Nat} (h : Bd l) : cutL l = numL (valL l) := by
  rw [← cutL_val]; exact (numL_val (l := cutL l) (h.take _) (cutL_nrm l)).symm
theorem cutN_num {l : List Nat} (h : Bd l) : cutN l l.length = (numL (valL l)).length := by rw [← cutL_num h, cutL_len]
theorem numL_zero_iff (x : Nat) : numL x = [] ↔ x = 0 := by
  refine ⟨fun h => ?_, fun h => by subst h; rfl⟩
  have := valL_numL x
  rw [h] at this
  exact this.symm
theorem numL_pos_iff (x : Nat) : 0 < (numL x).length ↔ 0 < x := by
  rw [List.length_pos_iff, Ne, numL_zero_iff]
  omega
theorem numL_len_le {x f : Nat} (h : x < 4294967296 ^ f) : (numL x).length ≤ f := by
  by_cases h0 : x = 0
  · subst h0; exact Nat.zero_le _
  · have h1 := (numL_nrm x).pos (fun e => h0 ((numL_zero_iff x).1 e))
    rw [valL_numL] at h1
    refine Decidable.byContradiction fun hc => ?_
    have : 4294967296 ^ f ≤ 4294967296 ^ ((numL x).length - 1) := Nat.pow_le_pow_right (by decide) (by omega)
    omega
end Go.Proofs.YtiemkfibpfndaaaGreatDoor

/- whole.FromTwos. -/
namespace Go.Proofs.YtiemkfibpfndaaaGreatDoor
open Go.RowKit

/-- '[]byte(s)' -/
theorem bytes_conv (w : World) (s : ByteArray) (hs : s.size ≤ 1000000000) : ∃ w1 bb cap, (convert 9 23 (.string s)).run Tryz.prog w = .ok (.slice (some ⟨bb, 0, none⟩) s.size cap) w1 ∧ Hid (Ow EB w1 (some ⟨bb, 0, none⟩) cap (bl s)) ∧ Hid (Keep nob w w1) ∧ Hid (w.heap.size ≤ bb ∧ bb < w1.heap.size) := by
  have hr := run_bytes_of_string (P := Tryz.prog) w 9 23 5 s Tryz.underlying9 Tryz.underlying23 Tryz.underlying5
  refine ⟨_, _, _, hr, Lib.hid ?_, Lib.hid (((Keep.refl nob w).drew).alloc _), Lib.hid ⟨Nat.le_refl _, by show w.heap.size < (w.heap.push _).size; simp⟩⟩
  have hge : s.size ≤ grownCap w s.size 0 5 := grownCap_ge w s.size 0 _
  have hcm : grownCap w s.size 0 5 ≤ 9223372036854775807 := by
    have := grownCap_le_maxLen w s.size 0 5 (by unfold maxLen; omega)
    unfold maxLen at this; omega
  generalize hcap : grownCap w s.size 0 5 = cap at hge hcm
  have hsz : (bytesRow s cap).size = cap := by
    unfold bytesRow
    rw [Array.size_append, Array.size_map, Array.size_replicate]
    have : s.data.size = s.size := rfl
    omega
  generalize hC : bytesRow s cap = C at hsz
  have hh : (w.drew.alloc (.cells C 5 (C.size, C.size + 1))).heap[w.heap.size]? = some (.cells C 5 (C.size, C.size + 1)) := by
    show (w.heap.push _)[w.heap.size]? = _
    simp
  have hfl : EB.flat (bl s) = s.data.toList.map (fun b => Value.int .u8 (b.toNat : Int)) := by
    unfold bl El.flat
    rw [List.flatMap_map]
    simp only [EB]
    induction s.data.toList with
    | nil => rfl
    | cons a l ih => simp only [List.flatMap_cons, List.map_cons, ih, List.singleton_append]
  refine ⟨⟨by rw [bl_len]; exact hge, hcm, fun _ => ⟨_, _, rfl, ?_⟩⟩, fun _ => ⟨_, _, rfl, ?_⟩⟩
  · intro j v hv
    rw [hfl] at hv
    simp only [World.cell?, hh, Option.isSome_none, Bool.false_eq_true, if_false, Nat.zero_add]
    have hj := (List.getElem?_eq_some_iff.1 hv).1
    simp only [List.length_map] at hj
    rw [← hC, bytesRow, Array.getElem?_append_left (by simpa using hj)]
    simpa using hv
  · intro j hj
    have hj' : j < C.size := by rw [hsz]; simpa [EB] using hj
    constructor
    · simp only [World.cell?, hh, Option.isSome_none, Bool.false_eq_true, if_false, Nat.zero_add]
      rw [Array.getElem?_eq_getElem hj']; rfl
    · unfold World.frozen?
      rw [hh]
      simp; omega

/-- bytes, the highest first, as limbs: the places from k - 1 down -/
def limbG (b : List Nat) : Nat → List Nat → List Nat
  | 0, m => m
  | k + 1, m => limbG b k (m.set (k / 4) (m.getD (k / 4) 0 ||| b.getD (b.length - 1 - k) 0 * 2 ^ (k % 4 * 8)))
def twoL (s : ByteArray) : List Nat := limbG (if 128 ≤ (bl s).headD 0 then flipF (bl s) 1 s.size else bl s) s.size (List.replicate ((s.size + 3) / 4) 0)
theorem flipF_len : ∀ (n : Nat) (l : List Nat) (c : Nat), (flipF l c n).length = l.length
  | 0, _, _ => rfl
  | n + 1, l, c => by rw [flipF, flipF_len n, List.length_set]
theorem flipF_B8 : ∀ (n : Nat) (l : List Nat) (c : Nat), B8 l → B8 (flipF l c n)
  | 0, _, _, h => h
  | n + 1, l, c, h => by rw [flipF]; exact flipF_B8 n _ _ (h.set _ (by omega))
theorem limbG_len : ∀ (k : Nat) (b m : List Nat), (limbG b k m).length = m.length
  | 0, _, _ => rfl
  | k + 1, b, m => by rw [limbG, limbG_len k, List.length_set]

set_option maxRecDepth 100000 in
set_option maxHeartbeats 1000000 in
theorem FromTwos_ok (s : ByteArray) (w : World) (h0 : 0 < s.size) (hs : s.size ≤ 1000000000) :
    Calls Tryz.prog 98 #[.string s] w fun e w' => Keep nob w w' ∧ ∃ A', e = .returned (intV (decide (128 ≤ (bl s).headD 0) && decide (0 < cutN (twoL s) (twoL s).length)) A' (cutN (twoL s) (twoL s).length) (cutN (twoL s) (twoL s).length)) ∧ Sl EU w' A' (cutN (twoL s) (twoL s).length) (cutL (twoL s)) ∧ Lies (fun k => w.heap.size ≤ k) A' (cutL (twoL s)) := by
  obtain ⟨w0, HW0⟩ : ∃ w0, Hid (w.alloc (.cells #[.bool false, .slice none 0 0] 52) = w0) := ⟨_, Lib.hid rfl⟩
  obtain ⟨b2, HB2⟩ : ∃ b2, Hid (w.heap.size = b2) := ⟨_, Lib.hid rfl⟩
  have HK0 : Hid (Keep nob w w0) := by unfold Hid; rw [← HW0.out]; exact (Keep.refl _ _).alloc _
  have HT0 : Hid (w0.there b2 0 2) := by unfold Hid; rw [← HW0.out, ← HB2.out]; exact there_alloc_new w _ _ 2 (Nat.le_refl _)
  have HL0 : Hid (b2 < w0.heap.size) := by unfold Hid; rw [← HW0.out, ← HB2.out]; simp
  obtain ⟨w1, bb, cap, hcv, HO1, HK1, HL1⟩ := bytes_conv w0 s hs
  obtain ⟨x, HX⟩ : ∃ x, Hid ((bl s).headD 0 = x) := ⟨_, Lib.hid rfl⟩
  have hx0 : w1.cell? ⟨bb, 0, none⟩ = some (.int .u8 (x : Int)) := by
    have hl : 0 < (bl s).length := by rw [bl_len]; exact h0
    obtain ⟨b1, o1, hbo, hx⟩ := HO1.out.sl.elem (i := 0) hl
    simp only [Option.some.injEq, Addr.mk.injEq, and_true] at hbo
    obtain ⟨rfl, rfl⟩ := hbo
    have hx1 := hx 0 _ rfl
    simp only [EB, Nat.add_zero, Nat.zero_mul] at hx1
    have hxx : (bl s)[0] = x := by
      rw [← HX.out]
      generalize bl s = l at hl
      cases l with
      | nil => simp at hl
      | cons a l => rfl
    rw [hx1, hxx]
  have hn0 : (0 : Int) < (s.size : Int) := by omega
  have hF := flip_ok bb cap s.size (bl s) w1 (bl_len s) HO1.out (B8.bl s) hs
  have HF := Lib.hid hF
  clear hF
  rw [HX.out]
  obtain ⟨L, HLD⟩ : ∃ L, Hid ((if 128 ≤ x then flipF (bl s) 1 s.size else bl s) = L) := ⟨_, Lib.hid rfl⟩
  have HLL : Hid (L.length = s.size) := by unfold Hid; rw [← HLD.out]; split <;> simp only [flipF_len, bl_len]
  have HLB : Hid (B8 L) := by
    unfold Hid
    rw [← HLD.out]
    split
    · exact flipF_B8 _ _ _ (B8.bl s)
    · exact B8.bl s
  obtain ⟨M, HMM⟩ : ∃ M, Hid ((s.size + 3) / 4 = M) := ⟨_, Lib.hid rfl⟩
  obtain ⟨T, HT⟩ : ∃ T, Hid (limbG L s.size (List.replicate ((s.size + 3) / 4) 0) = T) := ⟨_, Lib.hid rfl⟩
  have hTT : twoL s = T := by unfold twoL; rw [HX.out, HLD.out, HT.out]
  rw [hTT]
  have hTM : T.length = M := by rw [← HT.out, limbG_len, List.length_replicate, HMM.out]
  have HTM := Lib.hid hTM
  rw [hTM]
  clear hTT hTM
  have hMle : M ≤ 1000000000 := by rw [← HMM.out]; omega
  have i1 : IntKind.i64.wrap ((s.size : Int) + 3) = (s.size : Int) + 3 := by rw [IntWalk.i64_left, IntWalk.wrap64_in _ ⟨by omega, by omega⟩]
  have i2 : Int.tdiv ((s.size : Int) + 3) 4 = (M : Int) := by rw [← HMM.out, Int.tdiv_eq_ediv_of_nonneg (by omega)]; omega
  by_cases hneg : 128 ≤ x
  · have hx8 : (x : Int) ≥ 128 := by omega
    rw [if_pos hneg] at HLD
    rw [HLD.out] at HF
    go_enter Tryz.func98, Tryz.ntmps98
    go_upto_region 1 with (fail)
    rw [HW0.out, HB2.out]
    go_upto_region 5 with (go_at_call 133; go_must (refine HF.out.mono ?_); rintro e w2 ⟨rfl, hk2, ho2⟩)
    have hk2 : Keep (fun k => w0.heap.size ≤ k) w0 w2 := (HK1.out.mono (fun _ _ h => h.elim)).then_ (hk2.mono (fun k _ h => by have := HL1.out; omega))
    have HBW : Hid (bb < w2.heap.size) := by unfold Hid; have := hk2.size; have := HL1.out; obtain ⟨b', o', e', hlt⟩ := ho2.lt (by have := ho2.sl.le; rw [HLL.out] at this; omega); simp only [Option.some.injEq, Addr.mk.injEq, and_true] at e'; obtain ⟨rfl, rfl⟩ := e'; exact hlt
    have HO2 := Lib.hid ho2
    have HK2 := Lib.hid hk2
    clear ho2 hk2
    go_upto_block 0 with (at_make; refine wpList_make_E EU rfl _ _ 50 rfl 130 _ 4 Tryz.underlying50 infoU32 M M _ _ rfl rfl rfl rfl (Nat.le_refl _) (by omega) (by omega) ?_; intro w3 HW3)
    obtain ⟨bm, HBM⟩ : ∃ bm, Hid (w2.heap.size = bm) := ⟨_, Lib.hid rfl⟩
    have HM3 : Hid (Ow EU w3 (some ⟨bm, 0, none⟩) M (List.replicate M (0 : Nat))) := by rw [← HBM.out, HW3.out]; exact ow_made EU w2 130 (.int .u32 0) 0 rfl M M (Nat.le_refl _) (by omega)
    have HK3 : Hid (Keep nob w2 w3) := by rw [HW3.out]; exact (Keep.refl _ w2).alloc _
    clear HW3
    rw [HBM.out]
    go_wp2_with (fail)
    go_loopw [6, 7, 8, 30] (fun u6 u7 u8 u30 wr => ∃ (i : Nat) (mm : List Nat), i ≤ s.size ∧ u30 = .int .i64 (i : Int) ∧ Hid (limbG L (s.size - i) mm = T) ∧ Hid (mm.length = M) ∧ Hid (Bd mm) ∧ Hid (Ow EU wr (some ⟨bm, 0, none⟩) M mm) ∧ Hid (Keep (· = bm) w3 wr)) (fun _ _ _ u30 _ => s.size - (intOf u30).toNat)
    case atStart => exact ⟨0, List.replicate M 0, Nat.zero_le _, rfl, by rw [← HT.out, HMM.out]; exact Lib.hid rfl, Lib.hid List.length_replicate, Lib.hid (fun x hx => by rw [(List.mem_replicate.1 hx).2]; decide), HM3, Lib.hid (Keep.refl _ _)⟩
    case round =>
      obtain ⟨i, mm, hi, rfl, HG, HML, HBD, HO, HK⟩ := hrel
      rcases Nat.lt_or_ge i s.size with hlt | hge
      · have hlt2 : (i : Int) < (s.size : Int) := by omega
        have hi0 : (0 : Int) ≤ (i : Int) := by omega
        obtain ⟨k, HKK⟩ : ∃ k, Hid (s.size - 1 - i = k) := ⟨_, Lib.hid rfl⟩
        have hLb : Ow EB wr (some ⟨bb, 0, none⟩) cap L := (HO2.out.keep HK3.out (fun ⟨_, _, h⟩ => h)).keep HK.out (fun ⟨a, ha, h⟩ => by simp only [Option.some.injEq] at ha; subst ha; have := HBM.out; have := HBW.out; simp only at h; omega)
        obtain ⟨b1, o1, hbo, hx⟩ := hLb.sl.elem (i := i) (by rw [HLL.out]; exact hlt)
        simp only [Option.some.injEq, Addr.mk.injEq, and_true] at hbo
        obtain ⟨rfl, rfl⟩ := hbo
        have hx1 := hx 0 _ rfl
        simp only [EB, Nat.add_zero, Nat.mul_one, Nat.zero_add] at hx1
        obtain ⟨y, HY⟩ : ∃ y, Hid (L.getD i 0 = y) := ⟨_, Lib.hid rfl⟩
        have hly : L[i]'(by rw [HLL.out]; exact hlt) = y := by rw [← HY.out, List.getD_eq_getElem?_getD, List.getElem?_eq_getElem (by rw [HLL.out]; exact hlt)]; rfl
        have hy8 : y < 256 := by rw [← hly]; exact HLB.out _ (List.getElem_mem _)
        rw [hly] at hx1
        clear hx hly hLb
        have hk4 : k / 4 < M := by rw [← HMM.out, ← HKK.out]; omega
        obtain ⟨b1, o1, hbo, hz⟩ := HO.out.sl.elem (i := k / 4) (by rw [HML.out]; exact hk4)
        simp only [Option.some.injEq, Addr.mk.injEq, and_true] at hbo
        obtain ⟨rfl, rfl⟩ := hbo
        have hz1 := hz 0 _ rfl
        obtain ⟨q, HQ⟩ : ∃ q, Hid (k / 4 = q) := ⟨_, Lib.hid rfl⟩
        obtain ⟨z, HZ⟩ : ∃ z, Hid (mm.getD q 0 = z) := ⟨_, Lib.hid rfl⟩
        have hmz : mm[k / 4]'(by rw [HML.out]; exact hk4) = z := by rw [← HZ.out, ← HQ.out, List.getD_eq_getElem?_getD, List.getElem?_eq_getElem (by rw [HML.out]; exact hk4)]; rfl
        have hz8 : z < 4294967296 := by rw [← HZ.out]; exact HBD.out.getD _
        rw [hmz, HQ.out] at hz1
        rw [HQ.out] at hk4
        simp only [EU, Nat.add_zero, Nat.mul_one, Nat.zero_add] at hz1
        clear hz hmz
        have hfz : wr.frozen? ⟨bm, q, none⟩ = false := by
          obtain ⟨b', o', e', ht⟩ := HO.out.room (by omega)
          simp only [Option.some.injEq, Addr.mk.injEq, and_true] at e'
          obtain ⟨rfl, rfl⟩ := e'
          have := (ht q (by simp only [EU]; omega)).2
          rwa [Nat.zero_add] at this
        have i5 : IntKind.i64.wrap ((s.size : Int) - 1) = (s.size : Int) - 1 := by rw [IntWalk.i64_left, IntWalk.wrap64_in _ ⟨by omega, by omega⟩]
        have i6 : IntKind.i64.wrap ((s.size : Int) - 1 - (i : Int)) = (k : Int) := by rw [← HKK.out, IntWalk.i64_left, IntWalk.wrap64_in _ ⟨by omega, by omega⟩]; omega
        have i6' : (s.size : Int) - 1 - (i : Int) = (k : Int) := by rw [← HKK.out]; omega
        have i7 : Int.tdiv (k : Int) 4 = (q : Int) := by rw [← HQ.out]; rfl
        have i9 : IntKind.i64.wrap (q : Int) = (q : Int) := by rw [IntWalk.i64_left, IntWalk.wrap64_in _ ⟨by omega, by omega⟩]
        have i10 : IntKind.u32.wrap (y : Int) = (y : Int) := by rw [IntKind.wrap_u32]; omega
        have hq0 : (0 : Int) ≤ (q : Int) := by omega
        have hq1 : (q : Int) < (M : Int) := by omega
        have hkr : k % 4 = 0 ∨ k % 4 = 1 ∨ k % 4 = 2 ∨ k % 4 = 3 := by omega
        obtain ⟨rr, HRR⟩ : ∃ rr, Hid (k % 4 = rr) := ⟨_, Lib.hid rfl⟩
        rw [HRR.out] at hkr
        have i8 : Int.tmod (k : Int) 4 = (rr : Int) := by rw [← HRR.out]; rfl
        obtain ⟨v, HV⟩ : ∃ v, Hid (z ||| y * 2 ^ (rr * 8) = v) := ⟨_, Lib.hid rfl⟩
        have hsh : y * 2 ^ (rr * 8) < 4294967296 := by rcases hkr with rfl | rfl | rfl | rfl <;> omega
        have hor : bits .or .u32 (z : Int) ((y * 2 ^ (rr * 8) : Nat) : Int) = (v : Int) := by rw [u32_or_nat z _ hz8 hsh, HV.out]
        have hv8 : v < 4294967296 := by rw [← HV.out]; exact Nat.or_lt_two_pow (n := 32) hz8 hsh
        have HPUT := HO.out.put (i := q) (by rw [HML.out]; exact hk4) v
        rw [show wr.setCells bm (0 + q * EU.sz) (EU.cells v) = wr.setCell ⟨bm, q, none⟩ (.int .u32 (v : Int)) by simp [EU, World.setCells]] at HPUT
        have HKP : Hid (Keep (· = bm) w3 (wr.setCell ⟨bm, q, none⟩ (.int .u32 (v : Int)))) := Lib.hid (HK.out.setCell (fun _ => rfl) _)
        have HPUT := Lib.hid HPUT
        have HG2 : Hid (limbG L (s.size - (i + 1)) (mm.set q v) = T) := by
          unfold Hid
          rw [← HG.out, show s.size - i = k + 1 by have := HKK.out; omega, limbG, HRR.out, HQ.out, HZ.out, HLL.out, show s.size - 1 - k = i by have := HKK.out; omega, HY.out, HV.out, show s.size - (i + 1) = k by have := HKK.out; omega]
        have HML2 : Hid ((mm.set q v).length = M) := by unfold Hid; rw [List.length_set, HML.out]
        have HBD2 : Hid (Bd (mm.set q v)) := Lib.hid (fun x hx => by
          rcases List.mem_or_eq_of_mem_set hx with hx | rfl
          · exact HBD.out x hx
          · exact hv8)
        have HKR := Lib.hid hkr
        clear hkr hv8
        go_upto_region 10 with (fail)
        have hkr := HKR.out
        clear HKR i6
        rcases hkr with rfl | rfl | rfl | rfl
        · simp only [Nat.reduceMul, Nat.reducePow, Nat.mul_one] at hor hsh
          have i12 : IntKind.i64.wrap 0 = 0 := by decide
          have i13 : IntKind.u32.wrap (y : Int) = (y : Int) := i10
          go_still_tail 13, (by kernel_rfl)
          change wpList _ _ _ _ _ wr.drew
          have HPD : Hid (Ow EU (wr.drew.setCell ⟨bm, q, none⟩ (.int .u32 (v : Int))) (some ⟨bm, 0, none⟩) M (mm.set q v)) := Lib.hid (HPUT.out.keep ((Keep.refl nob _).drew) (fun ⟨_, _, h⟩ => h))
          have HKD : Hid (Keep (· = bm) w3 (wr.drew.setCell ⟨bm, q, none⟩ (.int .u32 (v : Int)))) := Lib.hid ((HK.out.drew).setCell (fun _ => rfl) _)
          have hzd : wr.drew.cell? ⟨bm, q, none⟩ = some (.int .u32 (z : Int)) := hz1
          have hfd : wr.drew.frozen? ⟨bm, q, none⟩ = false := hfz
          obtain ⟨wd, HWD⟩ : ∃ wd, Hid (wr.drew = wd) := ⟨_, Lib.hid rfl⟩
          rw [HWD.out] at HPD HKD hzd hfd ⊢
          go_wp2
          exact ⟨⟨i + 1, _, by omega, rfl, HG2, HML2, HBD2, HPD, HKD⟩, by simp [intOf]; omega⟩
        · simp only [Nat.reduceMul, Nat.reducePow] at hor hsh
          have i12 : IntKind.i64.wrap 8 = 8 := by decide
          have i13 : IntKind.u32.wrap ((y : Int) * 256) = (y : Int) * 256 := by rw [IntKind.wrap_u32]; omega
          have hor : bits .or .u32 (z : Int) ((y : Int) * 256) = (v : Int) := by rw [show (y : Int) * 256 = ((y * 256 : Nat) : Int) by omega]; exact hor
          go_still_tail 13, (by kernel_rfl)
          change wpList _ _ _ _ _ wr.drew
          have HPD : Hid (Ow EU (wr.drew.setCell ⟨bm, q, none⟩ (.int .u32 (v : Int))) (some ⟨bm, 0, none⟩) M (mm.set q v)) := Lib.hid (HPUT.out.keep ((Keep.refl nob _).drew) (fun ⟨_, _, h⟩ => h))
          have HKD : Hid (Keep (· = bm) w3 (wr.drew.setCell ⟨bm, q, none⟩ (.int .u32 (v : Int)))) := Lib.hid ((HK.out.drew).setCell (fun _ => rfl) _)
          have hzd : wr.drew.cell? ⟨bm, q, none⟩ = some (.int .u32 (z : Int)) := hz1
          have hfd : wr.drew.frozen? ⟨bm, q, none⟩ = false := hfz
          obtain ⟨wd, HWD⟩ : ∃ wd, Hid (wr.drew = wd) := ⟨_, Lib.hid rfl⟩
          rw [HWD.out] at HPD HKD hzd hfd ⊢
          go_wp2
          exact ⟨⟨i + 1, _, by omega, rfl, HG2, HML2, HBD2, HPD, HKD⟩, by simp [intOf]; omega⟩
        · simp only [Nat.reduceMul, Nat.reducePow] at hor hsh
          have i12 : IntKind.i64.wrap 16 = 16 := by decide
          have i13 : IntKind.u32.wrap ((y : Int) * 65536) = (y : Int) * 65536 := by rw [IntKind.wrap_u32]; omega
          have hor : bits .or .u32 (z : Int) ((y : Int) * 65536) = (v : Int) := by rw [show (y : Int) * 65536 = ((y * 65536 : Nat) : Int) by omega]; exact hor
          go_still_tail 13, (by kernel_rfl)
          change wpList _ _ _ _ _ wr.drew
          have HPD : Hid (Ow EU (wr.drew.setCell ⟨bm, q, none⟩ (.int .u32 (v : Int))) (some ⟨bm, 0, none⟩) M (mm.set q v)) := Lib.hid (HPUT.out.keep ((Keep.refl nob _).drew) (fun ⟨_, _, h⟩ => h))
          have HKD : Hid (Keep (· = bm) w3 (wr.drew.setCell ⟨bm, q, none⟩ (.int .u32 (v : Int)))) := Lib.hid ((HK.out.drew).setCell (fun _ => rfl) _)
          have hzd : wr.drew.cell? ⟨bm, q, none⟩ = some (.int .u32 (z : Int)) := hz1
          have hfd : wr.drew.frozen? ⟨bm, q, none⟩ = false := hfz
          obtain ⟨wd, HWD⟩ : ∃ wd, Hid (wr.drew = wd) := ⟨_, Lib.hid rfl⟩
          rw [HWD.out] at HPD HKD hzd hfd ⊢
          go_wp2
          exact ⟨⟨i + 1, _, by omega, rfl, HG2, HML2, HBD2, HPD, HKD⟩, by simp [intOf]; omega⟩
        · simp only [Nat.reduceMul, Nat.reducePow] at hor hsh
          have i12 : IntKind.i64.wrap 24 = 24 := by decide
          have i13 : IntKind.u32.wrap ((y : Int) * 16777216) = (y : Int) * 16777216 := by rw [IntKind.wrap_u32]; omega
          have hor : bits .or .u32 (z : Int) ((y : Int) * 16777216) = (v : Int) := by rw [show (y : Int) * 16777216 = ((y * 16777216 : Nat) : Int) by omega]; exact hor
          go_still_tail 13, (by kernel_rfl)
          change wpList _ _ _ _ _ wr.drew
          have HPD : Hid (Ow EU (wr.drew.setCell ⟨bm, q, none⟩ (.int .u32 (v : Int))) (some ⟨bm, 0, none⟩) M (mm.set q v)) := Lib.hid (HPUT.out.keep ((Keep.refl nob _).drew) (fun ⟨_, _, h⟩ => h))
          have HKD : Hid (Keep (· = bm) w3 (wr.drew.setCell ⟨bm, q, none⟩ (.int .u32 (v : Int)))) := Lib.hid ((HK.out.drew).setCell (fun _ => rfl) _)
          have hzd : wr.drew.cell? ⟨bm, q, none⟩ = some (.int .u32 (z : Int)) := hz1
          have hfd : wr.drew.frozen? ⟨bm, q, none⟩ = false := hfz
          obtain ⟨wd, HWD⟩ : ∃ wd, Hid (wr.drew = wd) := ⟨_, Lib.hid rfl⟩
          rw [HWD.out] at HPD HKD hzd hfd ⊢
          go_wp2
          exact ⟨⟨i + 1, _, by omega, rfl, HG2, HML2, HBD2, HPD, HKD⟩, by simp [intOf]; omega⟩
      · obtain rfl : i = s.size := by omega
        have hmm : mm = T := by rw [← HG.out, Nat.sub_self]; rfl
        subst hmm
        have hno : ¬ (s.size : Int) < (s.size : Int) := by omega
        have hN := nNorm_ok (some ⟨bm, 0, none⟩) M M mm wr HTM.out HO.out.sl hMle
        obtain ⟨n, HN⟩ : ∃ n, Hid (cutN mm M = n) := ⟨_, Lib.hid rfl⟩
        rw [HN.out] at hN
        have HN9 := Lib.hid hN
        have HKAS : Hid (w0.heap.size ≤ wr.heap.size) := by unfold Hid; have h1 := HK2.out.size; have h2 := HK3.out.size; have h3 := HK.out.size; omega
        clear hN
        go_wp2_with (first | (go_at_call 134; go_must (refine HN9.out.mono ?_); rintro e w5 ⟨hk5, A', rfl, hs5, hl5⟩; have HK5 := Lib.hid hk5; have HS5 := Lib.hid hs5; have HL5 := Lib.hid hl5; clear hk5 hs5 hl5) | (go_at_call 115; go_must (refine (made_ok _ _ _ _ _).mono ?_); rintro e w6 ⟨rfl, hk6⟩; unfold intV; have HK6 := Lib.hid hk6; clear hk6; have HKA : Hid (Keep (fun k => w0.heap.size ≤ k) w0 w6) := Lib.hid ((((HK2.out.then_ (HK3.out.mono (fun _ _ h => h.elim))).trans HK.out (fun k h1 h2 => by have := HBM.out; have := HK2.out.size; omega)).then_ (HK5.out.mono (fun _ _ h => h.elim))).then_ (HK6.out.mono (fun _ _ h => h.elim))); obtain ⟨v0, v1, ⟨d0, d1⟩, f0, f1⟩ := two (HKA.out.there HT0.out (fun h => by have := HL0.out; omega))))
        obtain ⟨w7, e7, p0, p1, k7⟩ := put2 (HKA.out.there HT0.out (fun h => by have := HL0.out; omega)) (.bool (decide (0 < n))) (.slice A' n n)
        rw [e7.out]
        have HA := HL0.out
        refine ret_int rfl rfl rfl p0 p1 ⟨?_, A', ?_, ?_, ?_⟩
        · exact (HK0.out.trans HKA.out (fun k h1 h2 => by have := HK0.out.size; omega)).trans k7 (fun k h1 h2 => by have := HB2.out; omega)
        · rw [HN.out]; simp [hneg, intV]
        · rw [HN.out]
          exact (HS5.out.keep HK6.out (fun ⟨_, _, h⟩ => h)).keepD k7 HL5.out (fun k hk e => by have h1 := HKAS.out; omega)
        · exact HL5.out.mono HS5.out (fun k _ hk => by have h1 := HKAS.out; have := HK0.out.size; omega)
  · have hx8 : ¬ (x : Int) ≥ 128 := by omega
    rw [if_neg hneg] at HLD
    go_enter Tryz.func98, Tryz.ntmps98
    go_upto_region 1 with (fail)
    rw [HW0.out, HB2.out]
    go_upto_region 5 with (fail)
    obtain ⟨w2, HW2⟩ : ∃ w2, Hid (w1 = w2) := ⟨_, Lib.hid rfl⟩
    have hk2 : Keep (fun k => w0.heap.size ≤ k) w0 w2 := by rw [← HW2.out]; exact HK1.out.mono (fun _ _ h => h.elim)
    have ho2 : Ow EB w2 (some ⟨bb, 0, none⟩) cap L := by rw [← HW2.out, ← HLD.out]; exact HO1.out
    have HBW : Hid (bb < w2.heap.size) := by unfold Hid; rw [← HW2.out]; exact HL1.out.2
    rw [HW2.out]
    have HO2 := Lib.hid ho2
    have HK2 := Lib.hid hk2
    clear ho2 hk2
    go_upto_block 0 with (at_make; refine wpList_make_E EU rfl _ _ 50 rfl 130 _ 4 Tryz.underlying50 infoU32 M M _ _ rfl rfl rfl rfl (Nat.le_refl _) (by omega) (by omega) ?_; intro w3 HW3)
    obtain ⟨bm, HBM⟩ : ∃ bm, Hid (w2.heap.size = bm) := ⟨_, Lib.hid rfl⟩
    have HM3 : Hid (Ow EU w3 (some ⟨bm, 0, none⟩) M (List.replicate M (0 : Nat))) := by rw [← HBM.out, HW3.out]; exact ow_made EU w2 130 (.int .u32 0) 0 rfl M M (Nat.le_refl _) (by omega)
    have HK3 : Hid (Keep nob w2 w3) := by rw [HW3.out]; exact (Keep.refl _ w2).alloc _
    clear HW3
    rw [HBM.out]
    go_wp2_with (fail)
    go_loopw [6, 7, 8, 30] (fun u6 u7 u8 u30 wr => ∃ (i : Nat) (mm : List Nat), i ≤ s.size ∧ u30 = .int .i64 (i : Int) ∧ Hid (limbG L (s.size - i) mm = T) ∧ Hid (mm.length = M) ∧ Hid (Bd mm) ∧ Hid (Ow EU wr (some ⟨bm, 0, none⟩) M mm) ∧ Hid (Keep (· = bm) w3 wr)) (fun _ _ _ u30 _ => s.size - (intOf u30).toNat)
    case atStart => exact ⟨0, List.replicate M 0, Nat.zero_le _, rfl, by rw [← HT.out, HMM.out]; exact Lib.hid rfl, Lib.hid List.length_replicate, Lib.hid (fun x hx => by rw [(List.mem_replicate.1 hx).2]; decide), HM3, Lib.hid (Keep.refl _ _)⟩
    case round =>
      obtain ⟨i, mm, hi, rfl, HG, HML, HBD, HO, HK⟩ := hrel
      rcases Nat.lt_or_ge i s.size with hlt | hge
      · have hlt2 : (i : Int) < (s.size : Int) := by omega
        have hi0 : (0 : Int) ≤ (i : Int) := by omega
        obtain ⟨k, HKK⟩ : ∃ k, Hid (s.size - 1 - i = k) := ⟨_, Lib.hid rfl⟩
        have hLb : Ow EB wr (some ⟨bb, 0, none⟩) cap L := (HO2.out.keep HK3.out (fun ⟨_, _, h⟩ => h)).keep HK.out (fun ⟨a, ha, h⟩ => by simp only [Option.some.injEq] at ha; subst ha; have := HBM.out; have := HBW.out; simp only at h; omega)
        obtain ⟨b1, o1, hbo, hx⟩ := hLb.sl.elem (i := i) (by rw [HLL.out]; exact hlt)
        simp only [Option.some.injEq, Addr.mk.injEq, and_true] at hbo
        obtain ⟨rfl, rfl⟩ := hbo
        have hx1 := hx 0 _ rfl
        simp only [EB, Nat.add_zero, Nat.mul_one, Nat.zero_add] at hx1
        obtain ⟨y, HY⟩ : ∃ y, Hid (L.getD i 0 = y) := ⟨_, Lib.hid rfl⟩
        have hly : L[i]'(by rw [HLL.out]; exact hlt) = y := by rw [← HY.out, List.getD_eq_getElem?_getD, List.getElem?_eq_getElem (by rw [HLL.out]; exact hlt)]; rfl
        have hy8 : y < 256 := by rw [← hly]; exact HLB.out _ (List.getElem_mem _)
        rw [hly] at hx1
        clear hx hly hLb
        have hk4 : k / 4 < M := by rw [← HMM.out, ← HKK.out]; omega
        obtain ⟨b1, o1, hbo, hz⟩ := HO.out.sl.elem (i := k / 4) (by rw [HML.out]; exact hk4)
        simp only [Option.some.injEq, Addr.mk.injEq, and_true] at hbo
        obtain ⟨rfl, rfl⟩ := hbo
        have hz1 := hz 0 _ rfl
        obtain ⟨q, HQ⟩ : ∃ q, Hid (k / 4 = q) := ⟨_, Lib.hid rfl⟩
        obtain ⟨z, HZ⟩ : ∃ z, Hid (mm.getD q 0 = z) := ⟨_, Lib.hid rfl⟩
        have hmz : mm[k / 4]'(by rw [HML.out]; exact hk4) = z := by rw [← HZ.out, ← HQ.out, List.getD_eq_getElem?_getD, List.getElem?_eq_getElem (by rw [HML.out]; exact hk4)]; rfl
        have hz8 : z < 4294967296 := by rw [← HZ.out]; exact HBD.out.getD _
        rw [hmz, HQ.out] at hz1
        rw [HQ.out] at hk4
        simp only [EU, Nat.add_zero, Nat.mul_one, Nat.zero_add] at hz1
        clear hz hmz
        have hfz : wr.frozen? ⟨bm, q, none⟩ = false := by
          obtain ⟨b', o', e', ht⟩ := HO.out.room (by omega)
          simp only [Option.some.injEq, Addr.mk.injEq, and_true] at e'
          obtain ⟨rfl, rfl⟩ := e'
          have := (ht q (by simp only [EU]; omega)).2
          rwa [Nat.zero_add] at this
        have i5 : IntKind.i64.wrap ((s.size : Int) - 1) = (s.size : Int) - 1 := by rw [IntWalk.i64_left, IntWalk.wrap64_in _ ⟨by omega, by omega⟩]
        have i6 : IntKind.i64.wrap ((s.size : Int) - 1 - (i : Int)) = (k : Int) := by rw [← HKK.out, IntWalk.i64_left, IntWalk.wrap64_in _ ⟨by omega, by omega⟩]; omega
        have i6' : (s.size : Int) - 1 - (i : Int) = (k : Int) := by rw [← HKK.out]; omega
        have i7 : Int.tdiv (k : Int) 4 = (q : Int) := by rw [← HQ.out]; rfl
        have i9 : IntKind.i64.wrap (q : Int) = (q : Int) := by rw [IntWalk.i64_left, IntWalk.wrap64_in _ ⟨by omega, by omega⟩]
        have i10 : IntKind.u32.wrap (y : Int) = (y : Int) := by rw [IntKind.wrap_u32]; omega
        have hq0 : (0 : Int) ≤ (q : Int) := by omega
        have hq1 : (q : Int) < (M : Int) := by omega
        have hkr : k % 4 = 0 ∨ k % 4 = 1 ∨ k % 4 = 2 ∨ k % 4 = 3 := by omega
        obtain ⟨rr, HRR⟩ : ∃ rr, Hid (k % 4 = rr) := ⟨_, Lib.hid rfl⟩
        rw [HRR.out] at hkr
        have i8 : Int.tmod (k : Int) 4 = (rr : Int) := by rw [← HRR.out]; rfl
        obtain ⟨v, HV⟩ : ∃ v, Hid (z ||| y * 2 ^ (rr * 8) = v) := ⟨_, Lib.hid rfl⟩
        have hsh : y * 2 ^ (rr * 8) < 4294967296 := by rcases hkr with rfl | rfl | rfl | rfl <;> omega
        have hor : bits .or .u32 (z : Int) ((y * 2 ^ (rr * 8) : Nat) : Int) = (v : Int) := by rw [u32_or_nat z _ hz8 hsh, HV.out]
        have hv8 : v < 4294967296 := by rw [← HV.out]; exact Nat.or_lt_two_pow (n := 32) hz8 hsh
        have HPUT := HO.out.put (i := q) (by rw [HML.out]; exact hk4) v
        rw [show wr.setCells bm (0 + q * EU.sz) (EU.cells v) = wr.setCell ⟨bm, q, none⟩ (.int .u32 (v : Int)) by simp [EU, World.setCells]] at HPUT
        have HKP : Hid (Keep (· = bm) w3 (wr.setCell ⟨bm, q, none⟩ (.int .u32 (v : Int)))) := Lib.hid (HK.out.setCell (fun _ => rfl) _)
        have HPUT := Lib.hid HPUT
        have HG2 : Hid (limbG L (s.size - (i + 1)) (mm.set q v) = T) := by
          unfold Hid
          rw [← HG.out, show s.size - i = k + 1 by have := HKK.out; omega, limbG, HRR.out, HQ.out, HZ.out, HLL.out, show s.size - 1 - k = i by have := HKK.out; omega, HY.out, HV.out, show s.size - (i + 1) = k by have := HKK.out; omega]
        have HML2 : Hid ((mm.set q v).length = M) := by unfold Hid; rw [List.length_set, HML.out]
        have HBD2 : Hid (Bd (mm.set q v)) := Lib.hid (fun x hx => by
          rcases List.mem_or_eq_of_mem_set hx with hx | rfl
          · exact HBD.out x hx
          · exact hv8)
        have HKR := Lib.hid hkr
        clear hkr hv8
        go_upto_region 10 with (fail)
        have hkr := HKR.out
        clear HKR i6
        rcases hkr with rfl | rfl | rfl | rfl
        · simp only [Nat.reduceMul, Nat.reducePow, Nat.mul_one] at hor hsh
          have i12 : IntKind.i64.wrap 0 = 0 := by decide
          have i13 : IntKind.u32.wrap (y : Int) = (y : Int) := i10
          go_still_tail 13, (by kernel_rfl)
          change wpList _ _ _ _ _ wr.drew
          have HPD : Hid (Ow EU (wr.drew.setCell ⟨bm, q, none⟩ (.int .u32 (v : Int))) (some ⟨bm, 0, none⟩) M (mm.set q v)) := Lib.hid (HPUT.out.keep ((Keep.refl nob _).drew) (fun ⟨_, _, h⟩ => h))
          have HKD : Hid (Keep (· = bm) w3 (wr.drew.setCell ⟨bm, q, none⟩ (.int .u32 (v : Int)))) := Lib.hid ((HK.out.drew).setCell (fun _ => rfl) _)
          have hzd : wr.drew.cell? ⟨bm, q, none⟩ = some (.int .u32 (z : Int)) := hz1
          have hfd : wr.drew.frozen? ⟨bm, q, none⟩ = false := hfz
          obtain ⟨wd, HWD⟩ : ∃ wd, Hid (wr.drew = wd) := ⟨_, Lib.hid rfl⟩
          rw [HWD.out] at HPD HKD hzd hfd ⊢
          go_wp2
          exact ⟨⟨i + 1, _, by omega, rfl, HG2, HML2, HBD2, HPD, HKD⟩, by simp [intOf]; omega⟩
        · simp only [Nat.reduceMul, Nat.reducePow] at hor hsh
          have i12 : IntKind.i64.wrap 8 = 8 := by decide
          have i13 : IntKind.u32.wrap ((y : Int) * 256) = (y : Int) * 256 := by rw [IntKind.wrap_u32]; omega
          have hor : bits .or .u32 (z : Int) ((y : Int) * 256) = (v : Int) := by rw [show (y : Int) * 256 = ((y * 256 : Nat) : Int) by omega]; exact hor
          go_still_tail 13, (by kernel_rfl)
          change wpList _ _ _ _ _ wr.drew
          have HPD : Hid (Ow EU (wr.drew.setCell ⟨bm, q, none⟩ (.int .u32 (v : Int))) (some ⟨bm, 0, none⟩) M (mm.set q v)) := Lib.hid (HPUT.out.keep ((Keep.refl nob _).drew) (fun ⟨_, _, h⟩ => h))
          have HKD : Hid (Keep (· = bm) w3 (wr.drew.setCell ⟨bm, q, none⟩ (.int .u32 (v : Int)))) := Lib.hid ((HK.out.drew).setCell (fun _ => rfl) _)
          have hzd : wr.drew.cell? ⟨bm, q, none⟩ = some (.int .u32 (z : Int)) := hz1
          have hfd : wr.drew.frozen? ⟨bm, q, none⟩ = false := hfz
          obtain ⟨wd, HWD⟩ : ∃ wd, Hid (wr.drew = wd) := ⟨_, Lib.hid rfl⟩
          rw [HWD.out] at HPD HKD hzd hfd ⊢
          go_wp2
          exact ⟨⟨i + 1, _, by omega, rfl, HG2, HML2, HBD2, HPD, HKD⟩, by simp [intOf]; omega⟩
        · simp only [Nat.reduceMul, Nat.reducePow] at hor hsh
          have i12 : IntKind.i64.wrap 16 = 16 := by decide
          have i13 : IntKind.u32.wrap ((y : Int) * 65536) = (y : Int) * 65536 := by rw [IntKind.wrap_u32]; omega
          have hor : bits .or .u32 (z : Int) ((y : Int) * 65536) = (v : Int) := by rw [show (y : Int) * 65536 = ((y * 65536 : Nat) : Int) by omega]; exact hor
          go_still_tail 13, (by kernel_rfl)
          change wpList _ _ _ _ _ wr.drew
          have HPD : Hid (Ow EU (wr.drew.setCell ⟨bm, q, none⟩ (.int .u32 (v : Int))) (some ⟨bm, 0, none⟩) M (mm.set q v)) := Lib.hid (HPUT.out.keep ((Keep.refl nob _).drew) (fun ⟨_, _, h⟩ => h))
          have HKD : Hid (Keep (· = bm) w3 (wr.drew.setCell ⟨bm, q, none⟩ (.int .u32 (v : Int)))) := Lib.hid ((HK.out.drew).setCell (fun _ => rfl) _)
          have hzd : wr.drew.cell? ⟨bm, q, none⟩ = some (.int .u32 (z : Int)) := hz1
          have hfd : wr.drew.frozen? ⟨bm, q, none⟩ = false := hfz
          obtain ⟨wd, HWD⟩ : ∃ wd, Hid (wr.drew = wd) := ⟨_, Lib.hid rfl⟩
          rw [HWD.out] at HPD HKD hzd hfd ⊢
          go_wp2
          exact ⟨⟨i + 1, _, by omega, rfl, HG2, HML2, HBD2, HPD, HKD⟩, by simp [intOf]; omega⟩
        · simp only [Nat.reduceMul, Nat.reducePow] at hor hsh
          have i12 : IntKind.i64.wrap 24 = 24 := by decide
          have i13 : IntKind.u32.wrap ((y : Int) * 16777216) = (y : Int) * 16777216 := by rw [IntKind.wrap_u32]; omega
          have hor : bits .or .u32 (z : Int) ((y : Int) * 16777216) = (v : Int) := by rw [show (y : Int) * 16777216 = ((y * 16777216 : Nat) : Int) by omega]; exact hor
          go_still_tail 13, (by kernel_rfl)
          change wpList _ _ _ _ _ wr.drew
          have HPD : Hid (Ow EU (wr.drew.setCell ⟨bm, q, none⟩ (.int .u32 (v : Int))) (some ⟨bm, 0, none⟩) M (mm.set q v)) := Lib.hid (HPUT.out.keep ((Keep.refl nob _).drew) (fun ⟨_, _, h⟩ => h))
          have HKD : Hid (Keep (· = bm) w3 (wr.drew.setCell ⟨bm, q, none⟩ (.int .u32 (v : Int)))) := Lib.hid ((HK.out.drew).setCell (fun _ => rfl) _)
          have hzd : wr.drew.cell? ⟨bm, q, none⟩ = some (.int .u32 (z : Int)) := hz1
          have hfd : wr.drew.frozen? ⟨bm, q, none⟩ = false := hfz
          obtain ⟨wd, HWD⟩ : ∃ wd, Hid (wr.drew = wd) := ⟨_, Lib.hid rfl⟩
          rw [HWD.out] at HPD HKD hzd hfd ⊢
          go_wp2
          exact ⟨⟨i + 1, _, by omega, rfl, HG2, HML2, HBD2, HPD, HKD⟩, by simp [intOf]; omega⟩
      · obtain rfl : i = s.size := by omega
        have hmm : mm = T := by rw [← HG.out, Nat.sub_self]; rfl
        subst hmm
        have hno : ¬ (s.size : Int) < (s.size : Int) := by omega
        have hN := nNorm_ok (some ⟨bm, 0, none⟩) M M mm wr HTM.out HO.out.sl hMle
        obtain ⟨n, HN⟩ : ∃ n, Hid (cutN mm M = n) := ⟨_, Lib.hid rfl⟩
        rw [HN.out] at hN
        have HN9 := Lib.hid hN
        have HKAS : Hid (w0.heap.size ≤ wr.heap.size) := by unfold Hid; have h1 := HK2.out.size; have h2 := HK3.out.size; have h3 := HK.out.size; omega
        clear hN
        go_wp2_with (first | (go_at_call 134; go_must (refine HN9.out.mono ?_); rintro e w5 ⟨hk5, A', rfl, hs5, hl5⟩; have HK5 := Lib.hid hk5; have HS5 := Lib.hid hs5; have HL5 := Lib.hid hl5; clear hk5 hs5 hl5) | (go_at_call 115; go_must (refine (made_ok _ _ _ _ _).mono ?_); rintro e w6 ⟨rfl, hk6⟩; unfold intV; have HK6 := Lib.hid hk6; clear hk6; have HKA : Hid (Keep (fun k => w0.heap.size ≤ k) w0 w6) := Lib.hid ((((HK2.out.then_ (HK3.out.mono (fun _ _ h => h.elim))).trans HK.out (fun k h1 h2 => by have := HBM.out; have := HK2.out.size; omega)).then_ (HK5.out.mono (fun _ _ h => h.elim))).then_ (HK6.out.mono (fun _ _ h => h.elim))); obtain ⟨v0, v1, ⟨d0, d1⟩, f0, f1⟩ := two (HKA.out.there HT0.out (fun h => by have := HL0.out; omega))))
        obtain ⟨w7, e7, p0, p1, k7⟩ := put2 (HKA.out.there HT0.out (fun h => by have := HL0.out; omega)) (.bool (false)) (.slice A' n n)
        rw [e7.out]
        have HA := HL0.out
        refine ret_int rfl rfl rfl p0 p1 ⟨?_, A', ?_, ?_, ?_⟩
        · exact (HK0.out.trans HKA.out (fun k h1 h2 => by have := HK0.out.size; omega)).trans k7 (fun k h1 h2 => by have := HB2.out; omega)
        · rw [HN.out]; simp [hneg, intV]
        · rw [HN.out]
          exact (HS5.out.keep HK6.out (fun ⟨_, _, h⟩ => h)).keepD k7 HL5.out (fun k hk e => by have h1 := HKAS.out; omega)
        · exact HL5.out.mono HS5.out (fun k _ hk => by have h1 := HKAS.out; have := HK0.out.size; omega)
end Go.Proofs.YtiemkfibpfndaaaGreatDoor

/- packread's family of numbers with a sign. -/
namespace Go.Proofs.YtiemkfibpfndaaaGreatDoor
open Go.RowKit

def twosV (t : ByteArray) : V := V.int (negN (decide (128 ≤ (bl t).headD 0) && decide (0 < cutN (twoL t) (twoL t).length)) (cutN (cutL (twoL t)) (cutN (twoL t) (twoL t).length))) (cutL (cutL (twoL t)))
set_option maxRecDepth 100000 in
theorem signed_ok (b : Nat) (s : ByteArray) (p fr op n B : Nat) (sa : Nat → Addr) (w : World) (g : GL B sa w) (_hB : B ≤ b) (hr : Rd w b s p fr op) (hp : p ≤ s.size) (hs : s.size ≤ 1000000000) (h0 : 0 < n) (hn : n ≤ 1000000) : Calls Tryz.prog 72 #[.pointer (some ⟨b, 0, none⟩), .int .u64 (n : Int)] w
    (FamPost sa b s op w ((takeR s p n).bind fun t p' => .ok (twosV t) p')) := by
  obtain ⟨w0, b4, HW0, HB4, HK0, HT0, HL0⟩ := start w
  obtain ⟨X, HX⟩ : ∃ X, Hid ((takeR s p n).bind (fun t p' => R.ok (twosV t) p') = X) := ⟨_, Lib.hid rfl⟩
  rw [HX.out]
  have HR0 := Lib.hid (hr.keep HK0.out (fun h => h))
  have HBB : Hid (b < w.heap.size) := Lib.hid (World.block_lt_of_cell? w _ hr.c0)
  have hT := take_ok b s p fr op n B sa w0 (g.keep HK0.out (fun _ h => h.elim)) HR0.out hp (by omega) (by omega)
  cases ht : takeR s p n with
  | bad c q =>
    rw [ht] at hT HX
    dsimp only [R.bind] at hT HX
    have HX2 : Hid (X = .bad c q) := Lib.hid HX.out.symm
    go_enter Tryz.func72, Tryz.ntmps72
    go_upto_region 1 with (fail)
    rw [HW0.out, HB4.out]
    go_wp2_with (go_at_call 39; go_must (refine hT.mono ?_); rintro e w9 ⟨ev, rfl, hk9, he⟩; have HK9 := Lib.hid hk9; clear hk9; obtain ⟨bb, rfl, he1⟩ := he; obtain ⟨v0, v1, v2, v3, v4, v5, v6, v7, ⟨c0, c1, c2, c3, c4, c5, c6, c7⟩, f0, f1, f2, f3, f4, f5, f6, f7⟩ := eight (HT0.out.keep' HK9.out))
    obtain ⟨w10, e10, r10, k10⟩ := put8 (HT0.out.keep' HK9.out) Raw.zero (.int .i8 0) (.int .u64 0) (.bool false) (.slice none 0 0) (.int .u64 0) (.int .i8 0) (.string ⟨#[]⟩) (.slice none 0 0) rfl
    rw [e10.out]
    exact ret_vt rfl rfl rfl rfl r10 (fam_bad HX2 HK0 (Keep.refl _ _) (HK9.out.mono (fun _ _ h => h.elim)) k10 HL0 ⟨bb, rfl, he1⟩)
  | ok t q =>
    obtain ⟨et, rfl, hq⟩ := take_size ht
    have hts : t.size = n := by
      rw [et, ByteArray.size_extract]
      have := hq hp
      omega
    rw [ht] at hT HX
    dsimp only [R.bind] at hT HX
    have HX2 : Hid (X = .ok (twosV t) (p + n)) := Lib.hid HX.out.symm
    have HF := Lib.hid (fun wv : World => FromTwos_ok t wv (by omega) (by omega))
    have hcl : (cutL (twoL t)).length = cutN (twoL t) (twoL t).length := cutL_len _
    have hcl2 : cutN (twoL t) (twoL t).length ≤ 1000000000 := by
      have h1 := cutN_le (twoL t) (twoL t).length
      have h2 : (twoL t).length = (n + 3) / 4 := by unfold twoL; rw [limbG_len, List.length_replicate, hts]
      omega
    unfold twosV at HX2
    obtain ⟨m, HM⟩ : ∃ m, Hid (cutN (twoL t) (twoL t).length = m) := ⟨_, Lib.hid rfl⟩
    obtain ⟨l, HLD⟩ : ∃ l, Hid (cutL (twoL t) = l) := ⟨_, Lib.hid rfl⟩
    rw [HM.out] at hcl hcl2
    rw [HLD.out] at hcl
    rw [HM.out, HLD.out] at HX2 HF
    obtain ⟨gg, HGG⟩ : ∃ gg, Hid ((decide (128 ≤ (bl t).headD 0) && decide (0 < m)) = gg) := ⟨_, Lib.hid rfl⟩
    rw [HGG.out] at HX2 HF
    have HO := Lib.hid (fun (A' : Option Addr) (wv : World) (h : Sl EU wv A' m l) => OfInt_ok gg A' m m l wv hcl h hcl2)
    clear hcl hcl2 hts hq ht et
    unfold intV at HF HO
    go_enter Tryz.func72, Tryz.ntmps72
    go_upto_region 1 with (fail)
    rw [HW0.out, HB4.out]
    go_wp2_with (first | (go_at_call 39; go_must (refine hT.mono ?_); rintro e w3 ⟨rfl, hk3, hr3⟩; have HK3 := Lib.hid hk3; have HR3 := Lib.hid hr3; clear hk3 hr3) | (go_at_call 98; go_must (refine (HF.out _).mono ?_); rintro e w5 ⟨hk5, A', rfl, hs5, hl5⟩; have HK5 := Lib.hid hk5; have HS5 := Lib.hid hs5; clear hk5 hs5 hl5) | (go_at_call 89; go_must (refine (HO.out _ _ HS5.out).mono ?_); rintro e w6 ⟨hk6, r, rfl, ht6⟩; have HK6 := Lib.hid hk6; have HT6 := Lib.hid ht6; clear hk6 ht6; unfold ER; have HTH : Hid (w6.there b4 0 8) := Lib.hid (((HK3.out.there HT0.out (fun h => by have := HBB.out; have := HL0.out; omega)).keep' HK5.out).keep' HK6.out); obtain ⟨v0, v1, v2, v3, v4, v5, v6, v7, ⟨c0, c1, c2, c3, c4, c5, c6, c7⟩, f0, f1, f2, f3, f4, f5, f6, f7⟩ := eight HTH.out))
    obtain ⟨w10, e10, r10, k10⟩ := put8 HTH.out r (.int .i8 (r.kind : Int)) (.int .u64 (r.n : Int)) (.bool r.neg) (.slice r.mA r.mL r.mC) (.int .u64 (r.bits : Int)) (.int .i8 r.ext) (.string r.text) (.slice r.kA r.kL r.kC) rfl
    rw [e10.out]
    have hL := HL0.out
    have hBB := HBB.out
    have hz3 := HK3.out.size
    have hz5 := HK5.out.size
    refine ret_vt rfl rfl rfl rfl r10 ?_
    rw [HX2.out]
    exact ⟨((((HK0.out.mono (fun _ _ h => h.elim)).then_ HK3.out).then_ (HK5.out.mono (fun _ _ h => h.elim))).then_ (HK6.out.mono (fun _ _ h => h.elim))).trans k10 (fun k h1 h2 => by omega), ⟨_, ((HR3.out.keep HK5.out (fun h => h)).keep HK6.out (fun h => h)).keep k10 (fun h => by omega)⟩, r, rfl, Tr.mono (fun k _ hk => by omega) _ _ (Tr.keep k10 (fun k hk e => by omega) _ _ HT6.out)⟩
end Go.Proofs.YtiemkfibpfndaaaGreatDoor

/- math/bits: Len32, TrailingZeros64. -/
namespace Go.Proofs.YtiemkfibpfndaaaGreatDoor
open Go.RowKit

theorem len8_at (c : Nat) (h : c < 256) (w : World) : (Instr.index 9 (.string Lib.len8tab) (.int .u8 (c : Int))).run Tryz.prog w = .ok (.int .u8 ((Lib.bitLen c : Nat) : Int)) w := by
  have h1 := Lib.run_index_len8tab (P := Tryz.prog) w 9 .u8 (c : Int) Tryz.underlying9 (by omega) (by omega)
  rw [h1, Lib.len8_of (c : Int) (by omega) (by omega), Int.toNat_natCast]
set_option maxRecDepth 100000 in
theorem len32_a (x : Nat) (hlo : 0 ≤ x) (hhi : x < 256) (w : World) : Calls Tryz.prog 178 #[.int .u32 (x : Int)] w fun e w' => e = .returned (.int .i64 ((Lib.bitLen x : Nat) : Int)) ∧ w' = w := by
  obtain ⟨c, HC⟩ : ∃ c, Hid (x = c) := ⟨_, Lib.hid rfl⟩
  have hc : c < 256 := by rw [← HC.out]; omega
  have hb : Lib.bitLen x = 0 + Lib.bitLen c := by rw [← HC.out]; simp
  have hidx := fun wv : World => len8_at c hc wv
  obtain ⟨y, HY⟩ : ∃ y, Hid (Lib.bitLen c = y) := ⟨_, Lib.hid rfl⟩
  have hy : y ≤ 8 := by rw [← HY.out]; exact Lib.bitLen_le8 ⟨c, hc⟩
  rw [HY.out] at hidx hb
  rw [hb]
  have w8 : IntKind.u8.wrap (c : Int) = (c : Int) := by rw [IntKind.wrap_u8]; omega
  have w64 : IntKind.i64.wrap (y : Int) = (y : Int) := by rw [IntWalk.i64_left, IntWalk.wrap64_in _ ⟨by omega, by omega⟩]
  have a64 : IntKind.i64.wrap (0 + (y : Int)) = ((0 + y : Nat) : Int) := by rw [IntWalk.i64_left, IntWalk.wrap64_in _ ⟨by omega, by omega⟩]; omega
  have f1 : ¬ (x : Int) ≥ 65536 := by omega
  have f2 : ¬ (x : Int) ≥ 256 := by omega
  have f3 : IntKind.u8.wrap (x : Int) = (c : Int) := by rw [HC.out]; exact w8
  clear hb
  go_enter Tryz.func178, Tryz.ntmps178
  go_wp2
  go_ret
  refine ⟨?_, rfl⟩
  simp
set_option maxRecDepth 100000 in
theorem len32_b (x : Nat) (hlo : 256 ≤ x) (hhi : x < 65536) (w : World) : Calls Tryz.prog 178 #[.int .u32 (x : Int)] w fun e w' => e = .returned (.int .i64 ((Lib.bitLen x : Nat) : Int)) ∧ w' = w := by
  obtain ⟨c, HC⟩ : ∃ c, Hid (x / 256 = c) := ⟨_, Lib.hid rfl⟩
  have hc : c < 256 := by rw [← HC.out]; omega
  have hb : Lib.bitLen x = 8 + Lib.bitLen c := by rw [← HC.out]; exact Lib.bitLen_shift8 x hlo (by omega)
  have hidx := fun wv : World => len8_at c hc wv
  obtain ⟨y, HY⟩ : ∃ y, Hid (Lib.bitLen c = y) := ⟨_, Lib.hid rfl⟩
  have hy : y ≤ 8 := by rw [← HY.out]; exact Lib.bitLen_le8 ⟨c, hc⟩
  rw [HY.out] at hidx hb
  rw [hb]
  have w8 : IntKind.u8.wrap (c : Int) = (c : Int) := by rw [IntKind.wrap_u8]; omega
  have w64 : IntKind.i64.wrap (y : Int) = (y : Int) := by rw [IntWalk.i64_left, IntWalk.wrap64_in _ ⟨by omega, by omega⟩]
  have a64 : IntKind.i64.wrap (8 + (y : Int)) = ((8 + y : Nat) : Int) := by rw [IntWalk.i64_left, IntWalk.wrap64_in _ ⟨by omega, by omega⟩]; omega
  have f1 : ¬ (x : Int) ≥ 65536 := by omega
  have f2 : (x : Int) ≥ 256 := by omega
  have f3 : (x : Int) / 256 = (c : Int) := by rw [← HC.out]; omega
  have f4 : IntKind.u32.wrap (c : Int) = (c : Int) := by rw [IntKind.wrap_u32]; omega
  clear hb
  go_enter Tryz.func178, Tryz.ntmps178
  go_wp2
  go_ret
  refine ⟨?_, rfl⟩
  simp
set_option maxRecDepth 100000 in
theorem len32_c (x : Nat) (hlo : 65536 ≤ x) (hhi : x < 16777216) (w : World) : Calls Tryz.prog 178 #[.int .u32 (x : Int)] w fun e w' => e = .returned (.int .i64 ((Lib.bitLen x : Nat) : Int)) ∧ w' = w := by
  obtain ⟨c, HC⟩ : ∃ c, Hid (x / 65536 = c) := ⟨_, Lib.hid rfl⟩
  have hc : c < 256 := by rw [← HC.out]; omega
  have hb : Lib.bitLen x = 16 + Lib.bitLen c := by rw [← HC.out]; exact Lib.bitLen_shift16 x hlo (by omega)
  have hidx := fun wv : World => len8_at c hc wv
  obtain ⟨y, HY⟩ : ∃ y, Hid (Lib.bitLen c = y) := ⟨_, Lib.hid rfl⟩
  have hy : y ≤ 8 := by rw [← HY.out]; exact Lib.bitLen_le8 ⟨c, hc⟩
  rw [HY.out] at hidx hb
  rw [hb]
  have w8 : IntKind.u8.wrap (c : Int) = (c : Int) := by rw [IntKind.wrap_u8]; omega
  have w64 : IntKind.i64.wrap (y : Int) = (y : Int) := by rw [IntWalk.i64_left, IntWalk.wrap64_in _ ⟨by omega, by omega⟩]
  have a64 : IntKind.i64.wrap (16 + (y : Int)) = ((16 + y : Nat) : Int) := by rw [IntWalk.i64_left, IntWalk.wrap64_in _ ⟨by omega, by omega⟩]; omega
  have f1 : (x : Int) ≥ 65536 := by omega
  have f3 : (x : Int) / 65536 = (c : Int) := by rw [← HC.out]; omega
  have f2 : ¬ (c : Int) ≥ 256 := by omega
  have f4 : IntKind.u32.wrap (c : Int) = (c : Int) := by rw [IntKind.wrap_u32]; omega
  clear hb
  go_enter Tryz.func178, Tryz.ntmps178
  go_wp2
  go_ret
  refine ⟨?_, rfl⟩
  simp
set_option maxRecDepth 100000 in
theorem len32_d (x : Nat) (hlo : 16777216 ≤ x) (hhi : x < 4294967296) (w : World) : Calls Tryz.prog 178 #[.int .u32 (x : Int)] w fun e w' => e = .returned (.int .i64 ((Lib.bitLen x : Nat) : Int)) ∧ w' = w := by
  obtain ⟨c, HC⟩ : ∃ c, Hid (x / 16777216 = c) := ⟨_, Lib.hid rfl⟩
  have hc : c < 256 := by rw [← HC.out]; omega
  have hb : Lib.bitLen x = 24 + Lib.bitLen c := by rw [← HC.out]; exact Lib.bitLen_shift24 x hlo (by omega)
  have hidx := fun wv : World => len8_at c hc wv
  obtain ⟨y, HY⟩ : ∃ y, Hid (Lib.bitLen c = y) := ⟨_, Lib.hid rfl⟩
  have hy : y ≤ 8 := by rw [← HY.out]; exact Lib.bitLen_le8 ⟨c, hc⟩
  rw [HY.out] at hidx hb
  rw [hb]
  have w8 : IntKind.u8.wrap (c : Int) = (c : Int) := by rw [IntKind.wrap_u8]; omega
  have w64 : IntKind.i64.wrap (y : Int) = (y : Int) := by rw [IntWalk.i64_left, IntWalk.wrap64_in _ ⟨by omega, by omega⟩]
  have a64 : IntKind.i64.wrap (24 + (y : Int)) = ((24 + y : Nat) : Int) := by rw [IntWalk.i64_left, IntWalk.wrap64_in _ ⟨by omega, by omega⟩]; omega
  have f1 : (x : Int) ≥ 65536 := by omega
  obtain ⟨d, HD⟩ : ∃ d, Hid (x / 65536 = d) := ⟨_, Lib.hid rfl⟩
  have f3 : (x : Int) / 65536 = (d : Int) := by rw [← HD.out]; omega
  have f2 : (d : Int) ≥ 256 := by rw [← HD.out]; omega
  have f5 : (d : Int) / 256 = (c : Int) := by rw [← HC.out, ← HD.out]; omega
  have f4 : IntKind.u32.wrap (c : Int) = (c : Int) := by rw [IntKind.wrap_u32]; omega
  clear hb
  go_enter Tryz.func178, Tryz.ntmps178
  go_wp2
  go_ret
  refine ⟨?_, rfl⟩
  simp
theorem len32_ok (x : Nat) (h : x < 4294967296) (w : World) : Calls Tryz.prog 178 #[.int .u32 (x : Int)] w fun e w' => e = .returned (.int .i64 ((Lib.bitLen x : Nat) : Int)) ∧ w' = w := by
  rcases Nat.lt_or_ge x 256 with h1 | h1
  · exact len32_a x (Nat.zero_le _) h1 w
  · rcases Nat.lt_or_ge x 65536 with h2 | h2
    · exact len32_b x h1 h2 w
    · rcases Nat.lt_or_ge x 16777216 with h3 | h3
      · exact len32_c x h2 h3 w
      · exact len32_d x h3 h w
set_option maxRecDepth 100000 in
theorem tz64_core (x idx k : Nat) (hxi : ¬ (x : Int) = 0) (hi : idx < 64) (hk : k < 64) (w : World)
    (key : IntKind.u64.wrap (bits BinOp.and IntKind.u64 (x : Int) (IntKind.u64.wrap (-(x : Int))) * 285870213051353865) / 288230376151711744 = (idx : Int))
    (hcell : w.cell? ⟨13, idx, none⟩ = some (.int .u8 (k : Int))) : Calls Tryz.prog 166 #[.int .u64 (x : Int)] w fun e w' => e = .returned (.int .i64 (k : Int)) ∧ w' = w := by
  have i1 : IntKind.i64.wrap (k : Int) = (k : Int) := by rw [IntWalk.i64_left, IntWalk.wrap64_in _ ⟨by omega, by omega⟩]
  go_enter Tryz.func166, Tryz.ntmps166
  go_wp2_with (simp only [key])
  go_ret
  refine ⟨?_, rfl⟩
  simp
theorem tz64_ok (x B : Nat) (hx : x < 18446744073709551616) (sa : Nat → Addr) (w : World) (g : GL B sa w) :
    Calls Tryz.prog 166 #[.int .u64 (x : Int)] w fun e w' => e = .returned (.int .i64 ((Lib.ctz 64 x : Nat) : Int)) ∧ w' = w := by
  by_cases hx0 : x = 0
  · subst hx0
    go_enter Tryz.func166, Tryz.ntmps166
    go_wp2
    go_ret
    exact ⟨rfl, rfl⟩
  · obtain ⟨hlow, hk⟩ := Lib.lowest_bit 64 x hx0 hx
    obtain ⟨hi, htab⟩ := Lib.deBruijn64_at _ hk
    have hcell := g.tz _ hi
    rw [show tzL = Lib.deBruijn64tab from rfl, htab] at hcell
    exact tz64_core x _ _ (by omega) hi hk w (tz64_key x _ hx hx0 hlow) hcell
end Go.Proofs.YtiemkfibpfndaaaGreatDoor

/- Regions that draw their order and whose operations and calls keep all memory that there was: one walk in the order of the text. -/
namespace Go.Proofs.YtiemkfibpfndaaaGreatDoor
open Go.RowKit

/-- a walk behind a name: Lean's unifier else reckons on through operations that are not wanted -/
structure QV (p : Prop) : Prop where
  out : p
abbrev Kept (w w' : World) : Prop := Keep (fun _ => False) w w'
section
variable {P : Program} {Q : Exit → Act → World → Prop}
theorem wp_region_kept {id : Nat} {a : Act} {w : World} {l : List Oper} (hm : P.follows .mixedOrders = true) (hB : Region.lexB .any l.toArray = true)
    (h : wpQuiet P l.toArray (Kept w) (fun a' => ∀ w', Kept w w' → Q .normal a' w') l a) : (Code.region id l.toArray true).wp P Q a w :=
  wp_region_quiet (C := Kept w) hm hB ((Keep.refl _ w).drew) (by simpa using h)
theorem kq_skip {C : World → Prop} {ops : Array Oper} {Q : Act → Prop} {a : Act} {o : Oper} {rest : List Oper} (hw : Region.wanted o (yielded ops a.tmps) = false)
    (h : ∀ K : Act → Prop, (∀ a, QV (wpQuiet P ops C Q rest a) → K a) → K (a.put o.dst undef)) : QV (wpQuiet P ops C Q (o :: rest) a) :=
  ⟨BigFrame.wpQuiet_skip hw (h _ (fun _ h => h)).out⟩
theorem kq_want {C : World → Prop} {ops : Array Oper} {Q : Act → Prop} {a : Act} {o : Oper} {rest : List Oper} (hw : Region.wanted o (yielded ops a.tmps) = true)
    (h : ∀ K : Act → Prop, (∀ a, QV (wpQuiet P ops C Q rest a) → K a) → o.quiet P a C K) : QV (wpQuiet P ops C Q (o :: rest) a) :=
  ⟨BigFrame.wpQuiet_want hw fun K hK => h K fun a ha => hK a ha.out⟩
theorem kq_still {C : World → Prop} {o : Oper} {a : Act} {K : Act → Prop} (v : Value) (h : ∀ w', C w' → (execOp a.eval o).run P w' = .ok (.value v) w') (hk : K (a.put o.dst v)) : o.quiet P a C K :=
  ⟨v, fun w' hw' => by unfold Oper.quietAt; rw [h w' hw']; exact ⟨rfl, rfl⟩, hk⟩
theorem kq_call {w : World} {o : Oper} {a : Act} {K : Act → Prop} {f : FuncId} {args : Array Value} {v : Value} (hr : ∀ w', (execOp a.eval o).run P w' = .ok (.enter f args) w')
    (hc : ∀ w', Kept w w' → Calls P f args w' fun e w'' => e = .returned v ∧ Kept w' w'') (hk : K (a.put o.dst v)) : o.quiet P a (Kept w) K :=
  ⟨v, fun w' hw' => by unfold Oper.quietAt; rw [hr w']; exact ⟨rfl, (hc w' hw').mono fun e w'' ⟨h1, h2⟩ => ⟨h1, hw'.then_ h2⟩⟩, hk⟩
end
end Go.Proofs.YtiemkfibpfndaaaGreatDoor

/- ieee: shapes, signs, infinity. -/
namespace Go.Proofs.YtiemkfibpfndaaaGreatDoor
open Go.RowKit

/-- a shape's value -/
def shV (F : Nat) (L : Int) (X : Nat) : Value := .agg #[.int .i64 (F : Int), .int .i64 L, .int .i64 (X : Int)]
theorem load_sh {w : World} {b o : Nat} {v0 v1 v2 : Value} (h0 : w.cell? ⟨b, o, none⟩ = some v0) (h1 : w.cell? ⟨b, o + 1, none⟩ = some v1) (h2 : w.cell? ⟨b, o + 2, none⟩ = some v2) : (loadVar 232 ⟨b, o, none⟩).run Tryz.prog w = .ok (.agg #[v0, v1, v2]) w := by
  go_simp
theorem ret_sh {fn : Func} {p : Tmp} {R : Ending → World → Prop} {a : Act} {w : World} {b : Nat} {v0 v1 v2 : Value} (h : fn.results = #[.cell p 232]) (hp : a.tmps.getD p undef = .pointer (some ⟨b, 0, none⟩)) (hd : a.defers = [])
    (h0 : w.cell? ⟨b, 0, none⟩ = some v0) (h1 : w.cell? ⟨b, 1, none⟩ = some v1) (h2 : w.cell? ⟨b, 2, none⟩ = some v2) (hR : R (.returned (.agg #[v0, v1, v2])) w) : bodyPost Tryz.prog fn R .ret a w := by
  refine bodyPost_ret (v := .agg #[v0, v1, v2]) ?_ hd hR
  have hl := load_sh h0 h1 h2
  have hp' : a.tmps[p]?.getD undef = .pointer (some ⟨b, 0, none⟩) := by rw [← hp]; simp
  simp [results, h, hp', asAddr, hl]
theorem sh_new (w : World) (v0 v1 v2 : Value) (T : TypeId) : (w.alloc (.cells #[v0, v1, v2] T)).cell? ⟨w.heap.size, 0, none⟩ = some v0 ∧ (w.alloc (.cells #[v0, v1, v2] T)).cell? ⟨w.heap.size, 1, none⟩ = some v1 ∧ (w.alloc (.cells #[v0, v1, v2] T)).cell? ⟨w.heap.size, 2, none⟩ = some v2 := by simp
set_option maxRecDepth 100000 in
theorem of64_ok (B : Nat) (sa : Nat → Addr) (w : World) (g : GL B sa w) : Calls Tryz.prog 152 #[] w fun e w' => e = .returned (shV 52 (-1074) 11) ∧ Keep nob w w' := by
  have c0 : (w.alloc (.cells #[.int .i64 0, .int .i64 0, .int .i64 0] 232)).cell? ⟨12, 6, none⟩ = some (.int .i64 52) := by
    rw [World.cell?_alloc_lt _ _ _ (by have := g.le; have := g.lt; show 12 < _; omega)]
    exact g.sh 6 (by decide)
  have c1 : (w.alloc (.cells #[.int .i64 0, .int .i64 0, .int .i64 0] 232)).cell? ⟨12, 7, none⟩ = some (.int .i64 (-1074)) := by
    rw [World.cell?_alloc_lt _ _ _ (by have := g.le; have := g.lt; show 12 < _; omega)]
    exact g.sh 7 (by decide)
  have c2 : (w.alloc (.cells #[.int .i64 0, .int .i64 0, .int .i64 0] 232)).cell? ⟨12, 8, none⟩ = some (.int .i64 11) := by
    rw [World.cell?_alloc_lt _ _ _ (by have := g.le; have := g.lt; show 12 < _; omega)]
    exact g.sh 8 (by decide)
  clear g
  go_enter Tryz.func152, Tryz.ntmps152
  go_wp2
  exact ret_sh rfl rfl rfl (sh_new _ _ _ _ _).1 (sh_new _ _ _ _ _).2.1 (sh_new _ _ _ _ _).2.2 ⟨rfl, (Keep.refl _ _).alloc _⟩
set_option maxRecDepth 100000 in
theorem of32_ok (B : Nat) (sa : Nat → Addr) (w : World) (g : GL B sa w) : Calls Tryz.prog 165 #[] w fun e w' => e = .returned (shV 23 (-149) 8) ∧ Keep nob w w' := by
  have c0 : (w.alloc (.cells #[.int .i64 0, .int .i64 0, .int .i64 0] 232)).cell? ⟨12, 3, none⟩ = some (.int .i64 23) := by
    rw [World.cell?_alloc_lt _ _ _ (by have := g.le; have := g.lt; show 12 < _; omega)]
    exact g.sh 3 (by decide)
  have c1 : (w.alloc (.cells #[.int .i64 0, .int .i64 0, .int .i64 0] 232)).cell? ⟨12, 4, none⟩ = some (.int .i64 (-149)) := by
    rw [World.cell?_alloc_lt _ _ _ (by have := g.le; have := g.lt; show 12 < _; omega)]
    exact g.sh 4 (by decide)
  have c2 : (w.alloc (.cells #[.int .i64 0, .int .i64 0, .int .i64 0] 232)).cell? ⟨12, 5, none⟩ = some (.int .i64 8) := by
    rw [World.cell?_alloc_lt _ _ _ (by have := g.le; have := g.lt; show 12 < _; omega)]
    exact g.sh 5 (by decide)
  clear g
  go_enter Tryz.func165, Tryz.ntmps165
  go_wp2
  exact ret_sh rfl rfl rfl (sh_new _ _ _ _ _).1 (sh_new _ _ _ _ _).2.1 (sh_new _ _ _ _ _).2.2 ⟨rfl, (Keep.refl _ _).alloc _⟩
set_option maxRecDepth 100000 in
theorem ssign64_ok (w : World) : Calls Tryz.prog 164 #[.agg #[.int .i64 52, .int .i64 (-1074), .int .i64 11]] w fun e w' => e = .returned (.int .u64 9223372036854775808) ∧ Keep nob w w' := by
  go_enter Tryz.func164, Tryz.ntmps164
  go_wp2
  go_ret
  exact ⟨rfl, (Keep.refl _ _).alloc _⟩
set_option maxRecDepth 100000 in
theorem sinf64_ok (w : World) : Calls Tryz.prog 156 #[.agg #[.int .i64 52, .int .i64 (-1074), .int .i64 11]] w fun e w' => e = .returned (.int .u64 9218868437227405312) ∧ Keep nob w w' := by
  obtain ⟨h0, h1, h2⟩ := sh_new w (.int .i64 52) (.int .i64 (-1074)) (.int .i64 11) 232
  obtain ⟨w0, HW0⟩ : ∃ w0, Hid (w.alloc (.cells #[.int .i64 52, .int .i64 (-1074), .int .i64 11] 232) = w0) := ⟨_, Lib.hid rfl⟩
  have HK0 : Hid (Keep nob w w0) := by unfold Hid; rw [← HW0.out]; exact (Keep.refl _ _).alloc _
  rw [HW0.out] at h0 h1 h2
  obtain ⟨b0, HB0⟩ : ∃ b0, Hid (w.heap.size = b0) := ⟨_, Lib.hid rfl⟩
  rw [HB0.out] at h0 h1 h2
  have HX : Hid (∀ w', Kept w0 w' → w'.cell? ⟨b0, 0, none⟩ = some (.int .i64 52) ∧ w'.cell? ⟨b0, 1, none⟩ = some (.int .i64 (-1074)) ∧ w'.cell? ⟨b0, 2, none⟩ = some (.int .i64 11)) := Lib.hid (fun w' hk => ⟨hk.cell h0 (fun h => h), hk.cell h1 (fun h => h), hk.cell h2 (fun h => h)⟩)
  have HSG := Lib.hid ssign64_ok
  clear h0 h1 h2
  go_enter Tryz.func156, Tryz.ntmps156
  go_upto_region 1 with (fail)
  rw [HW0.out, HB0.out]
  refine wp_region_kept (by kernel_rfl) (by kernel_rfl) (QV.out ?_)
  repeat (first
    | (refine kq_skip (by rfl) (fun K hK => ?_); go_simp; refine hK _ ?_; clear hK K)
    | (refine kq_want (by rfl) (fun K hK => ?_); first
        | (refine BigFrame.quiet_move _ rfl ?_; go_simp; refine hK _ ?_; clear hK K)
        | (refine kq_still ?_ (fun w' hw' => ?_) ?_; rotate_left; (obtain ⟨c0, c1, c2⟩ := HX.out w' hw'; go_simp; first | done | exact rfl); go_simp; refine hK _ ?_; clear hK K)
        | (go_simp; apply Exists.intro; refine ⟨fun w' hw' => ?_, hK _ ?_⟩; (first | (go_at_call 164; refine (HSG.out w').mono ?_)); rintro e w'' ⟨rfl, hk''⟩; exact ⟨rfl, hw'.then_ hk''⟩; clear hK K)))
  refine ⟨wpQuiet_nil ?_⟩
  intro w9 hk9
  go_wp2
  go_ret
  exact ⟨rfl, HK0.out.then_ hk9⟩
set_option maxRecDepth 100000 in
theorem ssign32_ok (w : World) : Calls Tryz.prog 164 #[.agg #[.int .i64 23, .int .i64 (-149), .int .i64 8]] w fun e w' => e = .returned (.int .u64 2147483648) ∧ Keep nob w w' := by
  go_enter Tryz.func164, Tryz.ntmps164
  go_wp2
  go_ret
  exact ⟨rfl, (Keep.refl _ _).alloc _⟩
set_option maxRecDepth 100000 in
theorem sinf32_ok (w : World) : Calls Tryz.prog 156 #[.agg #[.int .i64 23, .int .i64 (-149), .int .i64 8]] w fun e w' => e = .returned (.int .u64 2139095040) ∧ Keep nob w w' := by
  obtain ⟨h0, h1, h2⟩ := sh_new w (.int .i64 23) (.int .i64 (-149)) (.int .i64 8) 232
  obtain ⟨w0, HW0⟩ : ∃ w0, Hid (w.alloc (.cells #[.int .i64 23, .int .i64 (-149), .int .i64 8] 232) = w0) := ⟨_, Lib.hid rfl⟩
  have HK0 : Hid (Keep nob w w0) := by unfold Hid; rw [← HW0.out]; exact (Keep.refl _ _).alloc _
  rw [HW0.out] at h0 h1 h2
  obtain ⟨b0, HB0⟩ : ∃ b0, Hid (w.heap.size = b0) := ⟨_, Lib.hid rfl⟩
  rw [HB0.out] at h0 h1 h2
  have HX : Hid (∀ w', Kept w0 w' → w'.cell? ⟨b0, 0, none⟩ = some (.int .i64 23) ∧ w'.cell? ⟨b0, 1, none⟩ = some (.int .i64 (-149)) ∧ w'.cell? ⟨b0, 2, none⟩ = some (.int .i64 8)) := Lib.hid (fun w' hk => ⟨hk.cell h0 (fun h => h), hk.cell h1 (fun h => h), hk.cell h2 (fun h => h)⟩)
  have HSG := Lib.hid ssign32_ok
  clear h0 h1 h2
  go_enter Tryz.func156, Tryz.ntmps156
  go_upto_region 1 with (fail)
  rw [HW0.out, HB0.out]
  refine wp_region_kept (by kernel_rfl) (by kernel_rfl) (QV.out ?_)
  repeat (first
    | (refine kq_skip (by rfl) (fun K hK => ?_); go_simp; refine hK _ ?_; clear hK K)
    | (refine kq_want (by rfl) (fun K hK => ?_); first
        | (refine BigFrame.quiet_move _ rfl ?_; go_simp; refine hK _ ?_; clear hK K)
        | (refine kq_still ?_ (fun w' hw' => ?_) ?_; rotate_left; (obtain ⟨c0, c1, c2⟩ := HX.out w' hw'; go_simp; first | done | exact rfl); go_simp; refine hK _ ?_; clear hK K)
        | (go_simp; apply Exists.intro; refine ⟨fun w' hw' => ?_, hK _ ?_⟩; (first | (go_at_call 164; refine (HSG.out w').mono ?_)); rintro e w'' ⟨rfl, hk''⟩; exact ⟨rfl, hw'.then_ hk''⟩; clear hK K)))
  refine ⟨wpQuiet_nil ?_⟩
  intro w9 hk9
  go_wp2
  go_ret
  exact ⟨rfl, HK0.out.then_ hk9⟩
set_option maxRecDepth 100000 in
theorem snan64_ok (w : World) : Calls Tryz.prog 153 #[.agg #[.int .i64 52, .int .i64 (-1074), .int .i64 11]] w fun e w' => e = .returned (.int .u64 9221120237041090560) ∧ Keep nob w w' := by
  obtain ⟨h0, h1, h2⟩ := sh_new w (.int .i64 52) (.int .i64 (-1074)) (.int .i64 11) 232
  obtain ⟨w0, HW0⟩ : ∃ w0, Hid (w.alloc (.cells #[.int .i64 52, .int .i64 (-1074), .int .i64 11] 232) = w0) := ⟨_, Lib.hid rfl⟩
  have HK0 : Hid (Keep nob w w0) := by unfold Hid; rw [← HW0.out]; exact (Keep.refl _ _).alloc _
  rw [HW0.out] at h0 h1 h2
  obtain ⟨b0, HB0⟩ : ∃ b0, Hid (w.heap.size = b0) := ⟨_, Lib.hid rfl⟩
  rw [HB0.out] at h0 h1 h2
  have HX : Hid (∀ w', Kept w0 w' → w'.cell? ⟨b0, 0, none⟩ = some (.int .i64 52) ∧ w'.cell? ⟨b0, 1, none⟩ = some (.int .i64 (-1074)) ∧ w'.cell? ⟨b0, 2, none⟩ = some (.int .i64 11)) := Lib.hid (fun w' hk => ⟨hk.cell h0 (fun h => h), hk.cell h1 (fun h => h), hk.cell h2 (fun h => h)⟩)
  have HSG := Lib.hid sinf64_ok
  clear h0 h1 h2
  go_enter Tryz.func153, Tryz.ntmps153
  go_upto_region 1 with (fail)
  rw [HW0.out, HB0.out]
  refine wp_region_kept (by kernel_rfl) (by kernel_rfl) (QV.out ?_)
  repeat (first
    | (refine kq_skip (by rfl) (fun K hK => ?_); go_simp; refine hK _ ?_; clear hK K)
    | (refine kq_want (by rfl) (fun K hK => ?_); first
        | (refine BigFrame.quiet_move _ rfl ?_; go_simp; refine hK _ ?_; clear hK K)
        | (refine kq_still ?_ (fun w' hw' => ?_) ?_; rotate_left; (obtain ⟨c0, c1, c2⟩ := HX.out w' hw'; go_simp; first | done | exact rfl); go_simp; refine hK _ ?_; clear hK K)
        | (go_simp; apply Exists.intro; refine ⟨fun w' hw' => ?_, hK _ ?_⟩; (first | (go_at_call 156; refine (HSG.out w').mono ?_)); rintro e w'' ⟨rfl, hk''⟩; exact ⟨rfl, hw'.then_ hk''⟩; clear hK K)))
  refine ⟨wpQuiet_nil ?_⟩
  intro w9 hk9
  go_wp2
  go_ret
  exact ⟨rfl, HK0.out.then_ hk9⟩
end Go.Proofs.YtiemkfibpfndaaaGreatDoor

/- The order of values. Plain Lean. -/
namespace Go.Proofs.YtiemkfibpfndaaaGreatDoor

def cmpI (a b : Int) : Int := if a < b then -1 else if b < a then 1 else 0
/-- the first that is not 0 -/
def orI (a b : Int) : Int := if a = 0 then b else a
/-- lists of one length, the highest limb first -/
def cmpRev : List Nat → List Nat → Int
  | x :: l, y :: l' => if x = y then cmpRev l l' else cmpI x y
  | _, _ => 0
/-- numbers without noughts at their end -/
def cmpL (a b : List Nat) : Int := if a.length = b.length then cmpRev a.reverse b.reverse else cmpI a.length b.length
def cmpW (neg : Bool) (a : List Nat) (neg' : Bool) (b : List Nat) : Int :=
  if sgn neg (cutN a a.length) < sgn neg' (cutN b b.length) then -1 else if sgn neg' (cutN b b.length) < sgn neg (cutN a a.length) then 1 else sgn neg (cutN a a.length) * cmpL (cutL a) (cutL b)
/-- patterns of 64 bits -/
def total64 (x y : Nat) : Int :=
  if 9223372036854775808 ≤ x then (if 9223372036854775808 ≤ y then cmpI y x else -1) else if 9223372036854775808 ≤ y then 1 else cmpI x y
/-- texts, byte by byte -/
def lexN : List Nat → List Nat → Int
  | [], [] => 0
  | [], _ :: _ => -1
  | _ :: _, [] => 1
  | x :: l, y :: l' => if x = y then lexN l l' else cmpI x y
mutual
def cmpV : V → V → Int
  | .mk k n neg mag bits ext text kids, .mk k' n' neg' mag' bits' ext' text' kids' =>
    orI (orI (cmpI k k') (orI (cmpI n n') (orI (cmpI ext ext') (orI (cmpW neg mag neg' mag') (orI (total64 bits bits') (lexN (bl text) (bl text'))))))) (cmpVL kids kids')
def cmpVL : List V → List V → Int
  | [], [] => 0
  | [], _ :: _ => -1
  | _ :: _, [] => 1
  | a :: l, b :: l' => orI (cmpV a b) (cmpVL l l')
end
mutual
/-- lists of a size that memory has -/
def Sm : V → Prop
  | .mk _ _ _ mag bits _ _ kids => mag.length ≤ 1000000000 ∧ kids.length ≤ 1000000000 ∧ bits < 18446744073709551616 ∧ SmL kids
def SmL : List V → Prop
  | [] => True
  | v :: l => Sm v ∧ SmL l
end
theorem SmL.get : ∀ {l : List V} (_ : SmL l) (i : Nat) (h : i < l.length), Sm l[i]
  | _ :: _, h, 0, _ => h.1
  | _ :: _, h, i + 1, h1 => SmL.get h.2 i (by simpa using h1)
  | [], _, _, h1 => absurd h1 (by simp)
theorem orI_zero (b : Int) : orI 0 b = b := rfl
theorem orI_ne {a : Int} (b : Int) (h : a ≠ 0) : orI a b = a := if_neg h
/-- the lists from a place on -/
theorem cmpVL_step {l l' : List V} {i : Nat} (h : i < l.length) (h' : i < l'.length) : cmpVL (l.drop i) (l'.drop i) = orI (cmpV l[i] l'[i]) (cmpVL (l.drop (i + 1)) (l'.drop (i + 1))) := by
  rw [List.drop_eq_getElem_cons h, List.drop_eq_getElem_cons h', cmpVL]
theorem cmpVL_more {l l' : List V} {i : Nat} (h : i < l.length) (h' : l'.length ≤ i) : cmpVL (l.drop i) (l'.drop i) = 1 := by
  rw [List.drop_eq_getElem_cons h, List.drop_eq_nil_of_le h', cmpVL]
theorem cmpVL_less {l l' : List V} {i : Nat} (h : l.length ≤ i) (h' : i < l'.length) : cmpVL (l.drop i) (l'.drop i) = -1 := by
  rw [List.drop_eq_getElem_cons h', List.drop_eq_nil_of_le h, cmpVL]
theorem cmpVL_end {l l' : List V} {i : Nat} (h : l.length ≤ i) (h' : l'.length ≤ i) : cmpVL (l.drop i) (l'.drop i) = 0 := by
  rw [List.drop_eq_nil_of_le h, List.drop_eq_nil_of_le h', cmpVL]
theorem cmpI_cases (a b : Int) : cmpI a b = -1 ∨ cmpI a b = 0 ∨ cmpI a b = 1 := by
  unfold cmpI
  split
  · exact .inl rfl
  · split
    · exact .inr (.inr rfl)
    · exact .inr (.inl rfl)
theorem sgn_cases (g : Bool) (n : Nat) : sgn g n = -1 ∨ sgn g n = 0 ∨ sgn g n = 1 := by
  unfold sgn
  split
  · exact .inr (.inl rfl)
  · cases g
    · exact .inr (.inr rfl)
    · exact .inl rfl
theorem cmpRev_cases : ∀ (a b : List Nat), cmpRev a b = -1 ∨ cmpRev a b = 0 ∨ cmpRev a b = 1
  | x :: l, y :: l' => by
    unfold cmpRev
    split
    · exact cmpRev_cases l l'
    · exact cmpI_cases _ _
  | [], [] => .inr (.inl rfl)
  | [], _ :: _ => .inr (.inl rfl)
  | _ :: _, [] => .inr (.inl rfl)
theorem cmpL_cases (a b : List Nat) : cmpL a b = -1 ∨ cmpL a b = 0 ∨ cmpL a b = 1 := by
  unfold cmpL
  split
  · exact cmpRev_cases _ _
  · exact cmpI_cases _ _
theorem cmpW_cases (g : Bool) (a : List Nat) (g' : Bool) (b : List Nat) : cmpW g a g' b = -1 ∨ cmpW g a g' b = 0 ∨ cmpW g a g' b = 1 := by
  unfold cmpW
  split
  · exact .inl rfl
  · split
    · exact .inr (.inr rfl)
    · rcases sgn_cases g (cutN a a.length) with h | h | h <;> rcases cmpL_cases (cutL a) (cutL b) with h2 | h2 | h2 <;> rw [h, h2] <;> simp
end Go.Proofs.YtiemkfibpfndaaaGreatDoor

/- ieee: patterns of bits, in plain Lean. -/
namespace Go.Proofs.YtiemkfibpfndaaaGreatDoor

theorem and_top (k x : Nat) (h : x < 2 ^ (k + 1)) : x &&& 2 ^ k = if 2 ^ k ≤ x then 2 ^ k else 0 := by
  have hp : 0 < 2 ^ k := Nat.two_pow_pos k
  rw [Nat.pow_succ] at h
  have hb : x.testBit k = decide (2 ^ k ≤ x) := by
    rw [Nat.testBit_eq_decide_div_mod_eq]
    by_cases hx : 2 ^ k ≤ x
    · have h1 : x / 2 ^ k = 1 := by
        apply Nat.div_eq_of_lt_le
        · omega
        · omega
      rw [h1]
      simp [hx]
    · rw [Nat.div_eq_of_lt (by omega)]
      simp [hx]
  apply Nat.eq_of_testBit_eq
  intro i
  rw [Nat.testBit_and, Nat.testBit_two_pow]
  by_cases he : k = i
  · subst he
    rw [hb]
    by_cases hx : 2 ^ k ≤ x
    · simp [hx]
    · simp [hx]
  · by_cases hx : 2 ^ k ≤ x
    · simp [hx, he]
    · simp [hx, he]
theorem andNot_top (k x : Nat) (h : x < 2 ^ (k + 1)) (hk : k < 64) : x &&& (2 ^ 64 - (2 ^ k + 1)) = x % 2 ^ k := by
  apply Nat.eq_of_testBit_eq
  intro i
  rw [Nat.testBit_and, Nat.testBit_two_pow_sub_succ (Nat.pow_lt_pow_right (by decide) hk), Nat.testBit_mod_two_pow, Nat.testBit_two_pow]
  by_cases hi : i < k
  · have h1 : ¬ k = i := by omega
    have h2 : i < 64 := by omega
    simp [hi, h1, h2]
  · by_cases he : k = i
    · subst he; simp
    · have h3 : x.testBit i = false := Nat.testBit_lt_two_pow (Nat.lt_of_lt_of_le h (Nat.pow_le_pow_right (by decide) (by omega)))
      simp [h3]
theorem or_top (k x : Nat) (h : x < 2 ^ k) : x ||| 2 ^ k = x + 2 ^ k := by
  have := Nat.two_pow_add_eq_or_of_lt h 1
  rw [Nat.mul_one] at this
  rw [Nat.or_comm, ← this, Nat.add_comm]

/-- the parts of a finite pattern: is it below 0, the odd m and the e of m times 2 to the e -/
def partsN (F : Nat) (L : Int) (X : Nat) (x : Nat) : Option (Bool × Nat × Int) :=
  let size := x % 2 ^ (F + X)
  if 2 ^ (F + X) - 2 ^ F ≤ size then none
  else if size = 0 then some (decide (2 ^ (F + X) ≤ x), 0, 0)
  else
    let m := if 0 < size / 2 ^ F then size % 2 ^ F + 2 ^ F else size
    let e := if 0 < size / 2 ^ F then L + (((size / 2 ^ F : Nat) : Int) - 1) else L
    some (decide (2 ^ (F + X) ≤ x), m / 2 ^ Lib.ctz 64 m, e + (Lib.ctz 64 m : Nat))
/-- a size with a sign, 64 bits -/
def signed64N (neg : Bool) (size : Nat) : Nat := if neg then size + 9223372036854775808 else size
/-- the pattern of 64 bits of m times 2 to the e, m below 2 to the 53, e not below the least: exact -/
def exact64 (neg : Bool) (m : Nat) (e : Int) : Nat :=
  if m = 0 then signed64N neg 0
  else
    let last : Int := max ((Lib.bitLen m : Int) - 53 + e) (-1074)
    if 2046 ≤ last + 1074 then signed64N neg 9218868437227405312
    else
      let kept := m * 2 ^ (e - last).toNat
      if kept / 4503599627370496 = 0 then signed64N neg kept else signed64N neg ((last + 1074).toNat * 4503599627370496 + kept)
/-- the whole number that a pattern is -/
def intN (F : Nat) (L : Int) (X : Nat) (x : Nat) : Option (Bool × Nat) :=
  match partsN F L X x with
  | none => none
  | some (neg, m, e) => if e < 0 then none else some (neg && decide (0 < m), m * 2 ^ e.toNat)
/-- as a pattern of 64 bits -/
def to64N (F : Nat) (L : Int) (X : Nat) (x : Nat) : Nat :=
  match partsN F L X x with
  | none => if x % 2 ^ (F + X) = 2 ^ (F + X) - 2 ^ F then signed64N (decide (2 ^ (F + X) ≤ x)) 9218868437227405312 else 9221120237041090560
  | some (neg, m, e) => exact64 neg m e
/-- as a value -/
def ofV (F : Nat) (L : Int) (X : Nat) (x : Nat) : V :=
  match intN F L X x with
  | some (neg, n) => V.int neg (numL n)
  | none => V.flo (to64N F L X x)
end Go.Proofs.YtiemkfibpfndaaaGreatDoor

/- ieee: a pattern's sign and size. -/
namespace Go.Proofs.YtiemkfibpfndaaaGreatDoor
open Go.RowKit

theorem and_s64 (x : Nat) (h : x < 18446744073709551616) : bits .and .u64 (x : Int) 9223372036854775808 = if 9223372036854775808 ≤ x then 9223372036854775808 else 0 := by
  have h1 := u64_and_nat x 9223372036854775808 (by omega) (by decide)
  have h2 : x &&& 9223372036854775808 = if 9223372036854775808 ≤ x then 9223372036854775808 else 0 := and_top 63 x h
  rw [show ((9223372036854775808 : Nat) : Int) = 9223372036854775808 from rfl, h2] at h1
  rw [h1]
  split <;> rfl
theorem andNot_s64 (x : Nat) (h : x < 18446744073709551616) : bits .andNot .u64 (x : Int) 9223372036854775808 = ((x % 9223372036854775808 : Nat) : Int) := by
  have h1 := u64_andNot_nat x 9223372036854775808 (by omega) (by decide)
  have h2 : x &&& (18446744073709551615 - 9223372036854775808) = x % 9223372036854775808 := andNot_top 63 x h (by decide)
  rw [show ((9223372036854775808 : Nat) : Int) = 9223372036854775808 from rfl, h2] at h1
  exact h1
set_option maxRecDepth 100000 in
theorem split64_ok (x B : Nat) (hx : x < 18446744073709551616) (sa : Nat → Addr) (w : World) (g : GL B sa w) : Calls Tryz.prog 146 #[.int .u64 (x : Int)] w fun e w' => e = .returned (.tuple #[.bool (decide (9223372036854775808 ≤ x)), .int .u64 ((x % 9223372036854775808 : Nat) : Int)]) ∧ Keep nob w w' := by
  have hof := of64_ok B sa w g
  have HSG := Lib.hid ssign64_ok
  have ha := and_s64 x hx
  have hn := andNot_s64 x hx
  have i1 : IntKind.u64.wrap (x : Int) = (x : Int) := by rw [IntKind.wrap_u64]; omega
  unfold shV at hof
  clear g hx
  by_cases h : 9223372036854775808 ≤ x
  · rw [if_pos h] at ha
    go_enter Tryz.func146, Tryz.ntmps146
    go_wp2_with (first | (go_at_call 152; go_must (refine hof.mono ?_); rintro e w1 ⟨rfl, hk1⟩) | (go_at_call 164; go_must (refine (HSG.out _).mono ?_); rintro e w2 ⟨rfl, hk2⟩))
    go_ret2
    exact ⟨by simp [h], hk1.then_ hk2⟩
  · rw [if_neg h] at ha
    go_enter Tryz.func146, Tryz.ntmps146
    go_wp2_with (first | (go_at_call 152; go_must (refine hof.mono ?_); rintro e w1 ⟨rfl, hk1⟩) | (go_at_call 164; go_must (refine (HSG.out _).mono ?_); rintro e w2 ⟨rfl, hk2⟩))
    go_ret2
    exact ⟨by simp [h], hk1.then_ hk2⟩
theorem and_s32 (x : Nat) (h : x < 4294967296) : bits .and .u64 (x : Int) 2147483648 = if 2147483648 ≤ x then 2147483648 else 0 := by
  have h1 := u64_and_nat x 2147483648 (by omega) (by decide)
  have h2 : x &&& 2147483648 = if 2147483648 ≤ x then 2147483648 else 0 := and_top 31 x h
  rw [show ((2147483648 : Nat) : Int) = 2147483648 from rfl, h2] at h1
  rw [h1]
  split <;> rfl
theorem andNot_s32 (x : Nat) (h : x < 4294967296) : bits .andNot .u64 (x : Int) 2147483648 = ((x % 2147483648 : Nat) : Int) := by
  have h1 := u64_andNot_nat x 2147483648 (by omega) (by decide)
  have h2 : x &&& (18446744073709551615 - 2147483648) = x % 2147483648 := andNot_top 31 x h (by decide)
  rw [show ((2147483648 : Nat) : Int) = 2147483648 from rfl, h2] at h1
  exact h1
set_option maxRecDepth 100000 in
theorem split32_ok (x B : Nat) (hx : x < 4294967296) (sa : Nat → Addr) (w : World) (g : GL B sa w) : Calls Tryz.prog 154 #[.int .u32 (x : Int)] w fun e w' => e = .returned (.tuple #[.bool (decide (2147483648 ≤ x)), .int .u64 ((x % 2147483648 : Nat) : Int)]) ∧ Keep nob w w' := by
  have hof := of32_ok B sa w g
  have HSG := Lib.hid ssign32_ok
  have ha := and_s32 x hx
  have hn := andNot_s32 x hx
  have i1 : IntKind.u64.wrap (x : Int) = (x : Int) := by rw [IntKind.wrap_u64]; omega
  unfold shV at hof
  clear g hx
  by_cases h : 2147483648 ≤ x
  · rw [if_pos h] at ha
    go_enter Tryz.func154, Tryz.ntmps154
    go_wp2_with (first | (go_at_call 165; go_must (refine hof.mono ?_); rintro e w1 ⟨rfl, hk1⟩) | (go_at_call 164; go_must (refine (HSG.out _).mono ?_); rintro e w2 ⟨rfl, hk2⟩))
    go_ret2
    exact ⟨by simp [h], hk1.then_ hk2⟩
  · rw [if_neg h] at ha
    go_enter Tryz.func154, Tryz.ntmps154
    go_wp2_with (first | (go_at_call 165; go_must (refine hof.mono ?_); rintro e w1 ⟨rfl, hk1⟩) | (go_at_call 164; go_must (refine (HSG.out _).mono ?_); rintro e w2 ⟨rfl, hk2⟩))
    go_ret2
    exact ⟨by simp [h], hk1.then_ hk2⟩
set_option maxRecDepth 100000 in
theorem isigned64_ok (neg : Bool) (x B : Nat) (hx : x < 9223372036854775808) (sa : Nat → Addr) (w : World) (g : GL B sa w) : Calls Tryz.prog 155 #[.bool neg, .int .u64 (x : Int)] w fun e w' => e = .returned (.int .u64 ((signed64N neg x : Nat) : Int)) ∧ Keep nob w w' := by
  cases neg
  · go_enter Tryz.func155, Tryz.ntmps155
    go_wp2
    go_ret
    exact ⟨rfl, Keep.refl _ _⟩
  · have hof := of64_ok B sa w g
    have HSG := Lib.hid ssign64_ok
    have ho : bits .or .u64 (x : Int) 9223372036854775808 = ((signed64N true x : Nat) : Int) := by
      have h1 := u64_or_nat x 9223372036854775808 (by omega) (by decide)
      have h2 : x ||| 9223372036854775808 = x + 9223372036854775808 := or_top 63 x hx
      rw [show ((9223372036854775808 : Nat) : Int) = 9223372036854775808 from rfl, h2] at h1
      exact h1
    unfold shV at hof
    clear g hx
    go_enter Tryz.func155, Tryz.ntmps155
    go_wp2_with (first | (go_at_call 152; go_must (refine hof.mono ?_); rintro e w1 ⟨rfl, hk1⟩) | (go_at_call 164; go_must (refine (HSG.out _).mono ?_); rintro e w2 ⟨rfl, hk2⟩))
    go_ret
    exact ⟨rfl, hk1.then_ hk2⟩
end Go.Proofs.YtiemkfibpfndaaaGreatDoor

/- ieee.Parts. -/
namespace Go.Proofs.YtiemkfibpfndaaaGreatDoor
open Go.RowKit

def PartsE (x : Option (Bool × Nat × Int)) : Ending := match x with
  | some (neg, m, e) => .returned (.tuple #[.bool neg, .int .u64 (m : Int), .int .i64 e, .bool true])
  | none => .returned (.tuple #[.bool false, .int .u64 0, .int .i64 0, .bool false])
theorem results_tmp4 {fn : Func} {t u v x : Tmp} (h : fn.results = #[.tmp t, .tmp u, .tmp v, .tmp x]) (tmps : Array Value) (P : Program) (w : World) :
    (results fn tmps).run P w = .ok (.tuple #[tmps.getD t undef, tmps.getD u undef, tmps.getD v undef, tmps.getD x undef]) w := by
  simp [results, h]
set_option maxRecDepth 100000 in
theorem parts64_ok (x B : Nat) (hx : x < 18446744073709551616) (sa : Nat → Addr) (w : World) (g : GL B sa w) : Calls Tryz.prog 158 #[.int .u64 (x : Int)] w fun e w' => e = PartsE (partsN 52 (-1074) 11 x) ∧ Keep nob w w' := by
  have hof := of64_ok B sa w g
  have HSPL := Lib.hid (fun (wv : World) (hk : Keep nob w wv) => split64_ok x B hx sa wv (g.keep hk (fun _ h => h.elim)))
  have HTZ := Lib.hid (fun (m : Nat) (hm : m < 18446744073709551616) (wv : World) (hk : Keep nob w wv) => tz64_ok m B hm sa wv (g.keep hk (fun _ h => h.elim)))
  have HINF := Lib.hid sinf64_ok
  unfold shV at hof
  obtain ⟨X, HX⟩ : ∃ X, Hid (partsN 52 (-1074) 11 x = X) := ⟨_, Lib.hid rfl⟩
  rw [HX.out]
  obtain ⟨size, HSZ⟩ : ∃ size, Hid (x % 9223372036854775808 = size) := ⟨_, Lib.hid rfl⟩
  obtain ⟨neg, HNG⟩ : ∃ neg, Hid (decide (9223372036854775808 ≤ x) = neg) := ⟨_, Lib.hid rfl⟩
  have hsz : size < 9223372036854775808 := by rw [← HSZ.out]; exact Nat.mod_lt _ (by decide)
  have HPN : Hid (partsN 52 (-1074) 11 x = if 9218868437227405312 ≤ size then none else if size = 0 then some (neg, 0, 0) else some (neg, (if 0 < size / 4503599627370496 then size % 4503599627370496 + 4503599627370496 else size) / 2 ^ Lib.ctz 64 (if 0 < size / 4503599627370496 then size % 4503599627370496 + 4503599627370496 else size), (if 0 < size / 4503599627370496 then (-1074) + (((size / 4503599627370496 : Nat) : Int) - 1) else (-1074)) + (Lib.ctz 64 (if 0 < size / 4503599627370496 then size % 4503599627370496 + 4503599627370496 else size) : Nat))) := by
    unfold Hid
    rw [← HNG.out, ← HSZ.out]
    rfl
  rw [HX.out] at HPN
  rw [HSZ.out, HNG.out] at HSPL
  clear g hx HX HSZ HNG
  by_cases hA : 9218868437227405312 ≤ size
  · rw [if_pos hA] at HPN
    have hAi : (size : Int) ≥ 9218868437227405312 := by omega
    go_enter Tryz.func158, Tryz.ntmps158
    go_wp2_with (first | (go_at_call 152; go_must (refine hof.mono ?_); rintro e w1 ⟨rfl, hk1⟩; have HK1 := Lib.hid (hk1.alloc (.cells #[.int .i64 52, .int .i64 (-1074), .int .i64 11] 232)); clear hk1) | (go_at_call 146; go_must (refine (HSPL.out _ HK1.out).mono ?_); rintro e w2 ⟨rfl, hk2⟩; have c0 := hk2.cell (sh_new w1 (.int .i64 52) (.int .i64 (-1074)) (.int .i64 11) 232).1 (fun h => h); have c1 := hk2.cell (sh_new w1 (.int .i64 52) (.int .i64 (-1074)) (.int .i64 11) 232).2.1 (fun h => h); have c2 := hk2.cell (sh_new w1 (.int .i64 52) (.int .i64 (-1074)) (.int .i64 11) 232).2.2 (fun h => h); have HK2 := Lib.hid (HK1.out.then_ hk2); clear hk2) | (go_at_call 156; go_must (refine (HINF.out _).mono ?_); rintro e w3 ⟨rfl, hk3⟩; have c0 := hk3.cell c0 (fun h => h); have c1 := hk3.cell c1 (fun h => h); have c2 := hk3.cell c2 (fun h => h); have HK3 := Lib.hid (HK2.out.then_ hk3); clear hk3) | (go_at_call 166; go_must (refine (HTZM.out _ DREW).mono ?_); rintro e w5 ⟨rfl, rfl⟩))
    refine bodyPost_ret (results_tmp4 rfl _ _ _) rfl ?_
    rw [HPN.out]
    exact ⟨rfl, HK3.out⟩
  rw [if_neg hA] at HPN
  have hAi : decide ((size : Int) ≥ 9218868437227405312) = false := by rw [decide_eq_false_iff_not]; omega
  by_cases hB : size = 0
  · subst hB
    rw [if_pos rfl] at HPN
    simp only [Int.natCast_zero] at hAi HSPL
    clear hAi
    go_enter Tryz.func158, Tryz.ntmps158
    go_wp2_with (first | (go_at_call 152; go_must (refine hof.mono ?_); rintro e w1 ⟨rfl, hk1⟩; have HK1 := Lib.hid (hk1.alloc (.cells #[.int .i64 52, .int .i64 (-1074), .int .i64 11] 232)); clear hk1) | (go_at_call 146; go_must (refine (HSPL.out _ HK1.out).mono ?_); rintro e w2 ⟨rfl, hk2⟩; have c0 := hk2.cell (sh_new w1 (.int .i64 52) (.int .i64 (-1074)) (.int .i64 11) 232).1 (fun h => h); have c1 := hk2.cell (sh_new w1 (.int .i64 52) (.int .i64 (-1074)) (.int .i64 11) 232).2.1 (fun h => h); have c2 := hk2.cell (sh_new w1 (.int .i64 52) (.int .i64 (-1074)) (.int .i64 11) 232).2.2 (fun h => h); have HK2 := Lib.hid (HK1.out.then_ hk2); clear hk2) | (go_at_call 156; go_must (refine (HINF.out _).mono ?_); rintro e w3 ⟨rfl, hk3⟩; have c0 := hk3.cell c0 (fun h => h); have c1 := hk3.cell c1 (fun h => h); have c2 := hk3.cell c2 (fun h => h); have HK3 := Lib.hid (HK2.out.then_ hk3); clear hk3) | (go_at_call 166; go_must (refine (HTZM.out _ DREW).mono ?_); rintro e w5 ⟨rfl, rfl⟩))
    refine bodyPost_ret (results_tmp4 rfl _ _ _) rfl ?_
    rw [HPN.out]
    exact ⟨rfl, HK3.out⟩
  rw [if_neg hB] at HPN
  have hBi : ((size : Int) == 0) = false := by rw [beq_eq_false_iff_ne]; omega
  obtain ⟨kk, HKK⟩ : ∃ kk, Hid (size / 4503599627370496 = kk) := ⟨_, Lib.hid rfl⟩
  have i1 : (size : Int) / 4503599627370496 = (kk : Int) := by rw [← HKK.out]; omega
  rw [HKK.out] at HPN
  obtain ⟨m, HM⟩ : ∃ m, Hid ((if 0 < kk then size % 4503599627370496 + 4503599627370496 else size) = m) := ⟨_, Lib.hid rfl⟩
  obtain ⟨e0, HE0⟩ : ∃ e0 : Int, Hid ((if 0 < kk then (-1074) + ((kk : Int) - 1) else (-1074)) = e0) := ⟨_, Lib.hid rfl⟩
  rw [HM.out, HE0.out] at HPN
  have hmlt : m < 9007199254740992 := by
    have := HKK.out
    rw [← HM.out]
    split <;> omega
  have hm0 : 0 < m := by
    rw [← HM.out]
    split <;> omega
  have he0 : -2000 ≤ e0 ∧ e0 ≤ 3000 := by
    have := HKK.out
    rw [← HE0.out]
    split <;> omega
  have HM64 : Hid (m < 18446744073709551616) := Lib.hid (by omega)
  obtain ⟨tz, HTT⟩ : ∃ tz, Hid (Lib.ctz 64 m = tz) := ⟨_, Lib.hid rfl⟩
  have htz : tz < 64 := by
    obtain ⟨_, hk⟩ := Lib.lowest_bit 64 m (by omega) (by omega)
    rw [← HTT.out]; exact hk
  rw [HTT.out] at HPN
  have HTZM := Lib.hid (HTZ.out m HM64.out)
  rw [HTT.out] at HTZM
  obtain ⟨mo, HMO⟩ : ∃ mo, Hid (m / 2 ^ tz = mo) := ⟨_, Lib.hid rfl⟩
  rw [HMO.out] at HPN
  have i10 : (m : Int) / 2 ^ tz = (mo : Int) := by rw [← HMO.out, Int.natCast_ediv, Int.natCast_pow]; rfl
  have i9 : IntKind.i64.wrap (e0 + (tz : Int)) = e0 + (tz : Int) := by rw [IntWalk.i64_left, IntWalk.wrap64_in _ ⟨by omega, by omega⟩]
  clear hm0 hB HTZ
  by_cases hC : 0 < kk
  · rw [if_pos hC] at HM HE0
    have hCi : decide ((kk : Int) > 0) = true := by rw [decide_eq_true_iff]; omega
    have hkk : kk < 4096 := by rw [← HKK.out]; omega
    obtain ⟨r, HR⟩ : ∃ r, Hid (size % 4503599627370496 = r) := ⟨_, Lib.hid rfl⟩
    have i2 : bits .and .u64 (size : Int) 4503599627370495 = (r : Int) := by
      have h1 := u64_and_nat size 4503599627370495 (by omega) (by decide)
      have h2 : size &&& 4503599627370495 = size % 4503599627370496 := Nat.and_two_pow_sub_one_eq_mod size 52
      rw [show ((4503599627370495 : Nat) : Int) = 4503599627370495 from rfl, h2, HR.out] at h1
      exact h1
    rw [HR.out] at HM
    have hr : r < 4503599627370496 := by rw [← HR.out]; exact Nat.mod_lt _ (by decide)
    have i3 : bits .or .u64 (r : Int) 4503599627370496 = (m : Int) := by
      have h1 := u64_or_nat r 4503599627370496 (by omega) (by decide)
      have h2 : r ||| 4503599627370496 = r + 4503599627370496 := or_top 52 r hr
      rw [show ((4503599627370496 : Nat) : Int) = 4503599627370496 from rfl, h2, HM.out] at h1
      exact h1
    have i4 : IntKind.i64.wrap (kk : Int) = (kk : Int) := by rw [IntWalk.i64_left, IntWalk.wrap64_in _ ⟨by omega, by omega⟩]
    have i5 : IntKind.i64.wrap ((kk : Int) - 1) = (kk : Int) - 1 := by rw [IntWalk.i64_left, IntWalk.wrap64_in _ ⟨by omega, by omega⟩]
    have i6 : IntKind.i64.wrap ((-1074) + ((kk : Int) - 1)) = e0 := by rw [HE0.out, IntWalk.i64_left, IntWalk.wrap64_in _ ⟨by omega, by omega⟩]
    go_enter Tryz.func158, Tryz.ntmps158
    go_upto_region 7 with (first | (go_at_call 152; go_must (refine hof.mono ?_); rintro e w1 ⟨rfl, hk1⟩; have HK1 := Lib.hid (hk1.alloc (.cells #[.int .i64 52, .int .i64 (-1074), .int .i64 11] 232)); clear hk1) | (go_at_call 146; go_must (refine (HSPL.out _ HK1.out).mono ?_); rintro e w2 ⟨rfl, hk2⟩; have c0 := hk2.cell (sh_new w1 (.int .i64 52) (.int .i64 (-1074)) (.int .i64 11) 232).1 (fun h => h); have c1 := hk2.cell (sh_new w1 (.int .i64 52) (.int .i64 (-1074)) (.int .i64 11) 232).2.1 (fun h => h); have c2 := hk2.cell (sh_new w1 (.int .i64 52) (.int .i64 (-1074)) (.int .i64 11) 232).2.2 (fun h => h); have HK2 := Lib.hid (HK1.out.then_ hk2); clear hk2) | (go_at_call 156; go_must (refine (HINF.out _).mono ?_); rintro e w3 ⟨rfl, hk3⟩; have c0 := hk3.cell c0 (fun h => h); have c1 := hk3.cell c1 (fun h => h); have c2 := hk3.cell c2 (fun h => h); have HK3 := Lib.hid (HK2.out.then_ hk3); clear hk3) | (go_at_call 166; go_must (refine (HTZM.out _ DREW).mono ?_); rintro e w5 ⟨rfl, rfl⟩))
    go_quiet (fail)
    go_upto_region 10 with (fail)
    go_quiet (fail)
    go_upto_region 13 with (first | (go_at_call 152; go_must (refine hof.mono ?_); rintro e w1 ⟨rfl, hk1⟩; have HK1 := Lib.hid (hk1.alloc (.cells #[.int .i64 52, .int .i64 (-1074), .int .i64 11] 232)); clear hk1) | (go_at_call 146; go_must (refine (HSPL.out _ HK1.out).mono ?_); rintro e w2 ⟨rfl, hk2⟩; have c0 := hk2.cell (sh_new w1 (.int .i64 52) (.int .i64 (-1074)) (.int .i64 11) 232).1 (fun h => h); have c1 := hk2.cell (sh_new w1 (.int .i64 52) (.int .i64 (-1074)) (.int .i64 11) 232).2.1 (fun h => h); have c2 := hk2.cell (sh_new w1 (.int .i64 52) (.int .i64 (-1074)) (.int .i64 11) 232).2.2 (fun h => h); have HK2 := Lib.hid (HK1.out.then_ hk2); clear hk2) | (go_at_call 156; go_must (refine (HINF.out _).mono ?_); rintro e w3 ⟨rfl, hk3⟩; have c0 := hk3.cell c0 (fun h => h); have c1 := hk3.cell c1 (fun h => h); have c2 := hk3.cell c2 (fun h => h); have HK3 := Lib.hid (HK2.out.then_ hk3); clear hk3) | (go_at_call 166; go_must (refine (HTZM.out _ (HK3.out.drewN _)).mono ?_); rintro e w5 ⟨rfl, rfl⟩))
    go_quiet (fail)
    go_wp2
    refine bodyPost_ret (results_tmp4 rfl _ _ _) rfl ?_
    rw [HPN.out]
    exact ⟨rfl, (HK3.out.drewN _).drewN _⟩
  · rw [if_neg hC] at HM HE0
    obtain rfl : kk = 0 := by omega
    have hCi : decide ((0 : Int) > 0) = false := by decide
    simp only [Int.natCast_zero] at i1
    have hsm : size = m := HM.out
    subst hsm
    have i6 : (-1074 : Int) = e0 := HE0.out
    subst i6
    go_enter Tryz.func158, Tryz.ntmps158
    go_upto_region 7 with (first | (go_at_call 152; go_must (refine hof.mono ?_); rintro e w1 ⟨rfl, hk1⟩; have HK1 := Lib.hid (hk1.alloc (.cells #[.int .i64 52, .int .i64 (-1074), .int .i64 11] 232)); clear hk1) | (go_at_call 146; go_must (refine (HSPL.out _ HK1.out).mono ?_); rintro e w2 ⟨rfl, hk2⟩; have c0 := hk2.cell (sh_new w1 (.int .i64 52) (.int .i64 (-1074)) (.int .i64 11) 232).1 (fun h => h); have c1 := hk2.cell (sh_new w1 (.int .i64 52) (.int .i64 (-1074)) (.int .i64 11) 232).2.1 (fun h => h); have c2 := hk2.cell (sh_new w1 (.int .i64 52) (.int .i64 (-1074)) (.int .i64 11) 232).2.2 (fun h => h); have HK2 := Lib.hid (HK1.out.then_ hk2); clear hk2) | (go_at_call 156; go_must (refine (HINF.out _).mono ?_); rintro e w3 ⟨rfl, hk3⟩; have c0 := hk3.cell c0 (fun h => h); have c1 := hk3.cell c1 (fun h => h); have c2 := hk3.cell c2 (fun h => h); have HK3 := Lib.hid (HK2.out.then_ hk3); clear hk3) | (go_at_call 166; go_must (refine (HTZM.out _ DREW).mono ?_); rintro e w5 ⟨rfl, rfl⟩))
    go_quiet (fail)
    go_upto_region 13 with (first | (go_at_call 152; go_must (refine hof.mono ?_); rintro e w1 ⟨rfl, hk1⟩; have HK1 := Lib.hid (hk1.alloc (.cells #[.int .i64 52, .int .i64 (-1074), .int .i64 11] 232)); clear hk1) | (go_at_call 146; go_must (refine (HSPL.out _ HK1.out).mono ?_); rintro e w2 ⟨rfl, hk2⟩; have c0 := hk2.cell (sh_new w1 (.int .i64 52) (.int .i64 (-1074)) (.int .i64 11) 232).1 (fun h => h); have c1 := hk2.cell (sh_new w1 (.int .i64 52) (.int .i64 (-1074)) (.int .i64 11) 232).2.1 (fun h => h); have c2 := hk2.cell (sh_new w1 (.int .i64 52) (.int .i64 (-1074)) (.int .i64 11) 232).2.2 (fun h => h); have HK2 := Lib.hid (HK1.out.then_ hk2); clear hk2) | (go_at_call 156; go_must (refine (HINF.out _).mono ?_); rintro e w3 ⟨rfl, hk3⟩; have c0 := hk3.cell c0 (fun h => h); have c1 := hk3.cell c1 (fun h => h); have c2 := hk3.cell c2 (fun h => h); have HK3 := Lib.hid (HK2.out.then_ hk3); clear hk3) | (go_at_call 166; go_must (refine (HTZM.out _ (HK3.out.drewN _)).mono ?_); rintro e w5 ⟨rfl, rfl⟩))
    go_quiet (fail)
    go_wp2
    refine bodyPost_ret (results_tmp4 rfl _ _ _) rfl ?_
    rw [HPN.out]
    exact ⟨rfl, (HK3.out.drewN _).drewN _⟩
set_option maxRecDepth 100000 in
theorem parts32_ok (x B : Nat) (hx : x < 4294967296) (sa : Nat → Addr) (w : World) (g : GL B sa w) : Calls Tryz.prog 149 #[.int .u32 (x : Int)] w fun e w' => e = PartsE (partsN 23 (-149) 8 x) ∧ Keep nob w w' := by
  have hof := of32_ok B sa w g
  have HSPL := Lib.hid (fun (wv : World) (hk : Keep nob w wv) => split32_ok x B hx sa wv (g.keep hk (fun _ h => h.elim)))
  have HTZ := Lib.hid (fun (m : Nat) (hm : m < 18446744073709551616) (wv : World) (hk : Keep nob w wv) => tz64_ok m B hm sa wv (g.keep hk (fun _ h => h.elim)))
  have HINF := Lib.hid sinf32_ok
  unfold shV at hof
  obtain ⟨X, HX⟩ : ∃ X, Hid (partsN 23 (-149) 8 x = X) := ⟨_, Lib.hid rfl⟩
  rw [HX.out]
  obtain ⟨size, HSZ⟩ : ∃ size, Hid (x % 2147483648 = size) := ⟨_, Lib.hid rfl⟩
  obtain ⟨neg, HNG⟩ : ∃ neg, Hid (decide (2147483648 ≤ x) = neg) := ⟨_, Lib.hid rfl⟩
  have hsz : size < 2147483648 := by rw [← HSZ.out]; exact Nat.mod_lt _ (by decide)
  have HPN : Hid (partsN 23 (-149) 8 x = if 2139095040 ≤ size then none else if size = 0 then some (neg, 0, 0) else some (neg, (if 0 < size / 8388608 then size % 8388608 + 8388608 else size) / 2 ^ Lib.ctz 64 (if 0 < size / 8388608 then size % 8388608 + 8388608 else size), (if 0 < size / 8388608 then (-149) + (((size / 8388608 : Nat) : Int) - 1) else (-149)) + (Lib.ctz 64 (if 0 < size / 8388608 then size % 8388608 + 8388608 else size) : Nat))) := by
    unfold Hid
    rw [← HNG.out, ← HSZ.out]
    rfl
  rw [HX.out] at HPN
  rw [HSZ.out, HNG.out] at HSPL
  clear g hx HX HSZ HNG
  by_cases hA : 2139095040 ≤ size
  · rw [if_pos hA] at HPN
    have hAi : (size : Int) ≥ 2139095040 := by omega
    go_enter Tryz.func149, Tryz.ntmps149
    go_wp2_with (first | (go_at_call 165; go_must (refine hof.mono ?_); rintro e w1 ⟨rfl, hk1⟩; have HK1 := Lib.hid (hk1.alloc (.cells #[.int .i64 23, .int .i64 (-149), .int .i64 8] 232)); clear hk1) | (go_at_call 154; go_must (refine (HSPL.out _ HK1.out).mono ?_); rintro e w2 ⟨rfl, hk2⟩; have c0 := hk2.cell (sh_new w1 (.int .i64 23) (.int .i64 (-149)) (.int .i64 8) 232).1 (fun h => h); have c1 := hk2.cell (sh_new w1 (.int .i64 23) (.int .i64 (-149)) (.int .i64 8) 232).2.1 (fun h => h); have c2 := hk2.cell (sh_new w1 (.int .i64 23) (.int .i64 (-149)) (.int .i64 8) 232).2.2 (fun h => h); have HK2 := Lib.hid (HK1.out.then_ hk2); clear hk2) | (go_at_call 156; go_must (refine (HINF.out _).mono ?_); rintro e w3 ⟨rfl, hk3⟩; have c0 := hk3.cell c0 (fun h => h); have c1 := hk3.cell c1 (fun h => h); have c2 := hk3.cell c2 (fun h => h); have HK3 := Lib.hid (HK2.out.then_ hk3); clear hk3) | (go_at_call 166; go_must (refine (HTZM.out _ DREW).mono ?_); rintro e w5 ⟨rfl, rfl⟩))
    refine bodyPost_ret (results_tmp4 rfl _ _ _) rfl ?_
    rw [HPN.out]
    exact ⟨rfl, HK3.out⟩
  rw [if_neg hA] at HPN
  have hAi : decide ((size : Int) ≥ 2139095040) = false := by rw [decide_eq_false_iff_not]; omega
  by_cases hB : size = 0
  · subst hB
    rw [if_pos rfl] at HPN
    simp only [Int.natCast_zero] at hAi HSPL
    clear hAi
    go_enter Tryz.func149, Tryz.ntmps149
    go_wp2_with (first | (go_at_call 165; go_must (refine hof.mono ?_); rintro e w1 ⟨rfl, hk1⟩; have HK1 := Lib.hid (hk1.alloc (.cells #[.int .i64 23, .int .i64 (-149), .int .i64 8] 232)); clear hk1) | (go_at_call 154; go_must (refine (HSPL.out _ HK1.out).mono ?_); rintro e w2 ⟨rfl, hk2⟩; have c0 := hk2.cell (sh_new w1 (.int .i64 23) (.int .i64 (-149)) (.int .i64 8) 232).1 (fun h => h); have c1 := hk2.cell (sh_new w1 (.int .i64 23) (.int .i64 (-149)) (.int .i64 8) 232).2.1 (fun h => h); have c2 := hk2.cell (sh_new w1 (.int .i64 23) (.int .i64 (-149)) (.int .i64 8) 232).2.2 (fun h => h); have HK2 := Lib.hid (HK1.out.then_ hk2); clear hk2) | (go_at_call 156; go_must (refine (HINF.out _).mono ?_); rintro e w3 ⟨rfl, hk3⟩; have c0 := hk3.cell c0 (fun h => h); have c1 := hk3.cell c1 (fun h => h); have c2 := hk3.cell c2 (fun h => h); have HK3 := Lib.hid (HK2.out.then_ hk3); clear hk3) | (go_at_call 166; go_must (refine (HTZM.out _ DREW).mono ?_); rintro e w5 ⟨rfl, rfl⟩))
    refine bodyPost_ret (results_tmp4 rfl _ _ _) rfl ?_
    rw [HPN.out]
    exact ⟨rfl, HK3.out⟩
  rw [if_neg hB] at HPN
  have hBi : ((size : Int) == 0) = false := by rw [beq_eq_false_iff_ne]; omega
  obtain ⟨kk, HKK⟩ : ∃ kk, Hid (size / 8388608 = kk) := ⟨_, Lib.hid rfl⟩
  have i1 : (size : Int) / 8388608 = (kk : Int) := by rw [← HKK.out]; omega
  rw [HKK.out] at HPN
  obtain ⟨m, HM⟩ : ∃ m, Hid ((if 0 < kk then size % 8388608 + 8388608 else size) = m) := ⟨_, Lib.hid rfl⟩
  obtain ⟨e0, HE0⟩ : ∃ e0 : Int, Hid ((if 0 < kk then (-149) + ((kk : Int) - 1) else (-149)) = e0) := ⟨_, Lib.hid rfl⟩
  rw [HM.out, HE0.out] at HPN
  have hmlt : m < 16777216 := by
    have := HKK.out
    rw [← HM.out]
    split <;> omega
  have hm0 : 0 < m := by
    rw [← HM.out]
    split <;> omega
  have he0 : -2000 ≤ e0 ∧ e0 ≤ 3000 := by
    have := HKK.out
    rw [← HE0.out]
    split <;> omega
  have HM64 : Hid (m < 18446744073709551616) := Lib.hid (by omega)
  obtain ⟨tz, HTT⟩ : ∃ tz, Hid (Lib.ctz 64 m = tz) := ⟨_, Lib.hid rfl⟩
  have htz : tz < 64 := by
    obtain ⟨_, hk⟩ := Lib.lowest_bit 64 m (by omega) (by omega)
    rw [← HTT.out]; exact hk
  rw [HTT.out] at HPN
  have HTZM := Lib.hid (HTZ.out m HM64.out)
  rw [HTT.out] at HTZM
  obtain ⟨mo, HMO⟩ : ∃ mo, Hid (m / 2 ^ tz = mo) := ⟨_, Lib.hid rfl⟩
  rw [HMO.out] at HPN
  have i10 : (m : Int) / 2 ^ tz = (mo : Int) := by rw [← HMO.out, Int.natCast_ediv, Int.natCast_pow]; rfl
  have i9 : IntKind.i64.wrap (e0 + (tz : Int)) = e0 + (tz : Int) := by rw [IntWalk.i64_left, IntWalk.wrap64_in _ ⟨by omega, by omega⟩]
  clear hm0 hB HTZ
  by_cases hC : 0 < kk
  · rw [if_pos hC] at HM HE0
    have hCi : decide ((kk : Int) > 0) = true := by rw [decide_eq_true_iff]; omega
    have hkk : kk < 4096 := by rw [← HKK.out]; omega
    obtain ⟨r, HR⟩ : ∃ r, Hid (size % 8388608 = r) := ⟨_, Lib.hid rfl⟩
    have i2 : bits .and .u64 (size : Int) 8388607 = (r : Int) := by
      have h1 := u64_and_nat size 8388607 (by omega) (by decide)
      have h2 : size &&& 8388607 = size % 8388608 := Nat.and_two_pow_sub_one_eq_mod size 23
      rw [show ((8388607 : Nat) : Int) = 8388607 from rfl, h2, HR.out] at h1
      exact h1
    rw [HR.out] at HM
    have hr : r < 8388608 := by rw [← HR.out]; exact Nat.mod_lt _ (by decide)
    have i3 : bits .or .u64 (r : Int) 8388608 = (m : Int) := by
      have h1 := u64_or_nat r 8388608 (by omega) (by decide)
      have h2 : r ||| 8388608 = r + 8388608 := or_top 23 r hr
      rw [show ((8388608 : Nat) : Int) = 8388608 from rfl, h2, HM.out] at h1
      exact h1
    have i4 : IntKind.i64.wrap (kk : Int) = (kk : Int) := by rw [IntWalk.i64_left, IntWalk.wrap64_in _ ⟨by omega, by omega⟩]
    have i5 : IntKind.i64.wrap ((kk : Int) - 1) = (kk : Int) - 1 := by rw [IntWalk.i64_left, IntWalk.wrap64_in _ ⟨by omega, by omega⟩]
    have i6 : IntKind.i64.wrap ((-149) + ((kk : Int) - 1)) = e0 := by rw [HE0.out, IntWalk.i64_left, IntWalk.wrap64_in _ ⟨by omega, by omega⟩]
    go_enter Tryz.func149, Tryz.ntmps149
    go_upto_region 7 with (first | (go_at_call 165; go_must (refine hof.mono ?_); rintro e w1 ⟨rfl, hk1⟩; have HK1 := Lib.hid (hk1.alloc (.cells #[.int .i64 23, .int .i64 (-149), .int .i64 8] 232)); clear hk1) | (go_at_call 154; go_must (refine (HSPL.out _ HK1.out).mono ?_); rintro e w2 ⟨rfl, hk2⟩; have c0 := hk2.cell (sh_new w1 (.int .i64 23) (.int .i64 (-149)) (.int .i64 8) 232).1 (fun h => h); have c1 := hk2.cell (sh_new w1 (.int .i64 23) (.int .i64 (-149)) (.int .i64 8) 232).2.1 (fun h => h); have c2 := hk2.cell (sh_new w1 (.int .i64 23) (.int .i64 (-149)) (.int .i64 8) 232).2.2 (fun h => h); have HK2 := Lib.hid (HK1.out.then_ hk2); clear hk2) | (go_at_call 156; go_must (refine (HINF.out _).mono ?_); rintro e w3 ⟨rfl, hk3⟩; have c0 := hk3.cell c0 (fun h => h); have c1 := hk3.cell c1 (fun h => h); have c2 := hk3.cell c2 (fun h => h); have HK3 := Lib.hid (HK2.out.then_ hk3); clear hk3) | (go_at_call 166; go_must (refine (HTZM.out _ DREW).mono ?_); rintro e w5 ⟨rfl, rfl⟩))
    go_quiet (fail)
    go_upto_region 10 with (fail)
    go_quiet (fail)
    go_upto_region 13 with (first | (go_at_call 165; go_must (refine hof.mono ?_); rintro e w1 ⟨rfl, hk1⟩; have HK1 := Lib.hid (hk1.alloc (.cells #[.int .i64 23, .int .i64 (-149), .int .i64 8] 232)); clear hk1) | (go_at_call 154; go_must (refine (HSPL.out _ HK1.out).mono ?_); rintro e w2 ⟨rfl, hk2⟩; have c0 := hk2.cell (sh_new w1 (.int .i64 23) (.int .i64 (-149)) (.int .i64 8) 232).1 (fun h => h); have c1 := hk2.cell (sh_new w1 (.int .i64 23) (.int .i64 (-149)) (.int .i64 8) 232).2.1 (fun h => h); have c2 := hk2.cell (sh_new w1 (.int .i64 23) (.int .i64 (-149)) (.int .i64 8) 232).2.2 (fun h => h); have HK2 := Lib.hid (HK1.out.then_ hk2); clear hk2) | (go_at_call 156; go_must (refine (HINF.out _).mono ?_); rintro e w3 ⟨rfl, hk3⟩; have c0 := hk3.cell c0 (fun h => h); have c1 := hk3.cell c1 (fun h => h); have c2 := hk3.cell c2 (fun h => h); have HK3 := Lib.hid (HK2.out.then_ hk3); clear hk3) | (go_at_call 166; go_must (refine (HTZM.out _ (HK3.out.drewN _)).mono ?_); rintro e w5 ⟨rfl, rfl⟩))
    go_quiet (fail)
    go_wp2
    refine bodyPost_ret (results_tmp4 rfl _ _ _) rfl ?_
    rw [HPN.out]
    exact ⟨rfl, (HK3.out.drewN _).drewN _⟩
  · rw [if_neg hC] at HM HE0
    obtain rfl : kk = 0 := by omega
    have hCi : decide ((0 : Int) > 0) = false := by decide
    simp only [Int.natCast_zero] at i1
    have hsm : size = m := HM.out
    subst hsm
    have i6 : (-149 : Int) = e0 := HE0.out
    subst i6
    go_enter Tryz.func149, Tryz.ntmps149
    go_upto_region 7 with (first | (go_at_call 165; go_must (refine hof.mono ?_); rintro e w1 ⟨rfl, hk1⟩; have HK1 := Lib.hid (hk1.alloc (.cells #[.int .i64 23, .int .i64 (-149), .int .i64 8] 232)); clear hk1) | (go_at_call 154; go_must (refine (HSPL.out _ HK1.out).mono ?_); rintro e w2 ⟨rfl, hk2⟩; have c0 := hk2.cell (sh_new w1 (.int .i64 23) (.int .i64 (-149)) (.int .i64 8) 232).1 (fun h => h); have c1 := hk2.cell (sh_new w1 (.int .i64 23) (.int .i64 (-149)) (.int .i64 8) 232).2.1 (fun h => h); have c2 := hk2.cell (sh_new w1 (.int .i64 23) (.int .i64 (-149)) (.int .i64 8) 232).2.2 (fun h => h); have HK2 := Lib.hid (HK1.out.then_ hk2); clear hk2) | (go_at_call 156; go_must (refine (HINF.out _).mono ?_); rintro e w3 ⟨rfl, hk3⟩; have c0 := hk3.cell c0 (fun h => h); have c1 := hk3.cell c1 (fun h => h); have c2 := hk3.cell c2 (fun h => h); have HK3 := Lib.hid (HK2.out.then_ hk3); clear hk3) | (go_at_call 166; go_must (refine (HTZM.out _ DREW).mono ?_); rintro e w5 ⟨rfl, rfl⟩))
    go_quiet (fail)
    go_upto_region 13 with (first | (go_at_call 165; go_must (refine hof.mono ?_); rintro e w1 ⟨rfl, hk1⟩; have HK1 := Lib.hid (hk1.alloc (.cells #[.int .i64 23, .int .i64 (-149), .int .i64 8] 232)); clear hk1) | (go_at_call 154; go_must (refine (HSPL.out _ HK1.out).mono ?_); rintro e w2 ⟨rfl, hk2⟩; have c0 := hk2.cell (sh_new w1 (.int .i64 23) (.int .i64 (-149)) (.int .i64 8) 232).1 (fun h => h); have c1 := hk2.cell (sh_new w1 (.int .i64 23) (.int .i64 (-149)) (.int .i64 8) 232).2.1 (fun h => h); have c2 := hk2.cell (sh_new w1 (.int .i64 23) (.int .i64 (-149)) (.int .i64 8) 232).2.2 (fun h => h); have HK2 := Lib.hid (HK1.out.then_ hk2); clear hk2) | (go_at_call 156; go_must (refine (HINF.out _).mono ?_); rintro e w3 ⟨rfl, hk3⟩; have c0 := hk3.cell c0 (fun h => h); have c1 := hk3.cell c1 (fun h => h); have c2 := hk3.cell c2 (fun h => h); have HK3 := Lib.hid (HK2.out.then_ hk3); clear hk3) | (go_at_call 166; go_must (refine (HTZM.out _ (HK3.out.drewN _)).mono ?_); rintro e w5 ⟨rfl, rfl⟩))
    go_quiet (fail)
    go_wp2
    refine bodyPost_ret (results_tmp4 rfl _ _ _) rfl ?_
    rw [HPN.out]
    exact ⟨rfl, (HK3.out.drewN _).drewN _⟩
end Go.Proofs.YtiemkfibpfndaaaGreatDoor

/- Natural numbers as lists of limbs: how many bits; shifted up. Plain Lean. -/
namespace Go.Proofs.YtiemkfibpfndaaaGreatDoor

/-- how many bits a number has -/
def bitsN (x : Nat) : Nat := if x = 0 then 0 else x.log2 + 1
theorem bitsN_lt (x : Nat) : x < 2 ^ bitsN x := by
  unfold bitsN
  split
  · omega
  · exact Nat.lt_log2_self
theorem bitsN_ge {x : Nat} (h : x ≠ 0) : 2 ^ (bitsN x - 1) ≤ x := by
  unfold bitsN
  rw [if_neg h, Nat.add_sub_cancel]
  exact Nat.log2_self_le h
theorem bitsN_eq {x k : Nat} (h1 : 2 ^ k ≤ x) (h2 : x < 2 ^ (k + 1)) : bitsN x = k + 1 := by
  have h0 : x ≠ 0 := by have := Nat.two_pow_pos k; omega
  unfold bitsN
  rw [if_neg h0]
  have e1 := (Nat.le_log2 h0).2 h1
  have e2 := (Nat.log2_lt h0).2 h2
  omega
theorem bitsN_le {x k : Nat} (h : x < 2 ^ k) : bitsN x ≤ k := by
  unfold bitsN
  split
  · exact Nat.zero_le _
  · rename_i h0
    have := (Nat.log2_lt h0).2 h
    omega
theorem bitLen_bits : ∀ (k x : Nat), x < 2 ^ k → x < 2 ^ 64 → Lib.bitLen x = bitsN x
  | 0, x, h, _ => by
    obtain rfl : x = 0 := by simpa using h
    rfl
  | k + 1, x, h, h64 => by
    by_cases h0 : x = 0
    · subst h0; rfl
    · rw [Lib.bitLen_half x h0 h64, bitLen_bits k (x / 2) (by rw [Nat.pow_succ] at h; omega) (by omega)]
      unfold bitsN
      rw [if_neg h0, Nat.log2_def x]
      by_cases h2 : 2 ≤ x
      · rw [if_neg (by omega), if_pos h2]; omega
      · rw [if_pos (by omega), if_neg h2]
/-- of a list: by its highest limb -/
theorem bitsN_val : ∀ {l : List Nat}, Bd l → Nrm l → ∀ h : l ≠ [], bitsN (valL l) = 32 * (l.length - 1) + bitsN (l.getLast h)
  | [], _, _, h => absurd rfl h
  | [x], _, _, _ => by simp [valL]
  | x :: y :: l, hb, hn, _ => by
    have ih := bitsN_val (l := y :: l) hb.tail hn (by simp)
    have hp := Nrm.pos (l := y :: l) hn (by simp)
    have hx := hb.head
    have hp0 : 0 < 4294967296 ^ ((y :: l).length - 1) := Nat.pow_pos (by decide)
    rw [List.getLast_cons (by simp), show valL (x :: y :: l) = x + 4294967296 * valL (y :: l) from rfl]
    obtain ⟨v, hv⟩ : ∃ v, valL (y :: l) = v := ⟨_, rfl⟩
    obtain ⟨z, hz⟩ : ∃ z, bitsN ((y :: l).getLast (by simp)) = z := ⟨_, rfl⟩
    rw [hv] at hp ih ⊢
    rw [hz] at ih ⊢
    have hv0 : v ≠ 0 := by omega
    have g1 := bitsN_lt v
    have g2 := bitsN_ge hv0
    have hpos : 1 ≤ bitsN v := by
      unfold bitsN
      rw [if_neg hv0]; omega
    have e4 : (2 : Nat) ^ 32 = 4294967296 := by decide
    have e : bitsN (x + 4294967296 * v) = (32 + (bitsN v - 1)) + 1 := by
      apply bitsN_eq
      · rw [Nat.pow_add, e4]
        have := Nat.mul_le_mul_left 4294967296 g2
        omega
      · rw [show 32 + (bitsN v - 1) + 1 = 32 + bitsN v by omega, Nat.pow_add, e4]
        have : 4294967296 * (v + 1) ≤ 4294967296 * 2 ^ bitsN v := Nat.mul_le_mul_left _ g1
        omega
    rw [e]
    simp only [List.length_cons, Nat.add_sub_cancel] at ih ⊢
    omega

/-! ### shifted up -/
/-- limbs shifted by r bits, c carried in -/
def shlC (r : Nat) : Nat → List Nat → List Nat
  | _, [] => []
  | c, x :: l => (x * 2 ^ r % 4294967296 + c) :: shlC r (x / 2 ^ (32 - r)) l
def shlOut (r : Nat) : Nat → List Nat → Nat
  | c, [] => c
  | _, x :: l => shlOut r (x / 2 ^ (32 - r)) l
/-- in place, from the limb j - 1 down -/
def shlG (r : Nat) : Nat → List Nat → List Nat
  | 0, o => o
  | j + 1, o => shlG r j (o.set j (o.getD j 0 * 2 ^ r % 4294967296 ||| (if 0 < j then o.getD (j - 1) 0 / 2 ^ (32 - r) else 0)))
theorem shlC_len (r : Nat) : ∀ (c : Nat) (l : List Nat), (shlC r c l).length = l.length
  | _, [] => rfl
  | _, x :: l => by rw [shlC, List.length_cons, List.length_cons, shlC_len]
theorem shlG_len (r : Nat) : ∀ (j : Nat) (o : List Nat), (shlG r j o).length = o.length
  | 0, _ => rfl
  | j + 1, o => by rw [shlG, shlG_len, List.length_set]
theorem shl_split {r x : Nat} (hr : r ≤ 32) : x * 2 ^ r = x * 2 ^ r % 4294967296 + 4294967296 * (x / 2 ^ (32 - r)) := by
  have e : (4294967296 : Nat) = 2 ^ (32 - r) * 2 ^ r := by rw [← Nat.pow_add, show 32 - r + r = 32 by omega]
  have h1 : x * 2 ^ r / 4294967296 = x / 2 ^ (32 - r) := by rw [e, Nat.mul_div_mul_right _ _ (Nat.two_pow_pos r)]
  rw [← h1]
  omega
theorem shlC_val {r : Nat} (hr : r ≤ 32) : ∀ (c : Nat) (l : List Nat), valL (shlC r c l) + 4294967296 ^ l.length * shlOut r c l = valL l * 2 ^ r + c
  | c, [] => by simp [shlC, shlOut, valL]
  | c, x :: l => by
    have ih := shlC_val hr (x / 2 ^ (32 - r)) l
    have hs := shl_split (x := x) hr
    rw [shlC, shlOut, valL, valL, List.length_cons, Nat.pow_succ, Nat.add_mul, Nat.mul_assoc 4294967296 (valL l), Nat.mul_comm (4294967296 ^ l.length), Nat.mul_assoc 4294967296]
    have : 4294967296 * (valL (shlC r (x / 2 ^ (32 - r)) l) + 4294967296 ^ l.length * shlOut r (x / 2 ^ (32 - r)) l) = 4294967296 * (valL l * 2 ^ r + x / 2 ^ (32 - r)) := by rw [ih]
    rw [Nat.mul_add, Nat.mul_add] at this
    omega
theorem shlC_bd {r : Nat} (hr : r ≤ 32) : ∀ (c : Nat) (l : List Nat), c < 2 ^ r → Bd l → Bd (shlC r c l)
  | _, [], _, _ => Bd.nil
  | c, x :: l, hc, hb => by
    have hx := hb.head
    refine Bd.cons ?_ (shlC_bd hr _ l ?_ hb.tail)
    · have e : (4294967296 : Nat) = 2 ^ r * 2 ^ (32 - r) := by rw [← Nat.pow_add, show r + (32 - r) = 32 by omega]
      rw [show x * 2 ^ r % 4294967296 = 2 ^ r * (x % 2 ^ (32 - r)) by rw [Nat.mul_comm x, e, Nat.mul_mod_mul_left]]
      have h1 : x % 2 ^ (32 - r) < 2 ^ (32 - r) := Nat.mod_lt _ (Nat.two_pow_pos _)
      have h2 : 2 ^ r * (x % 2 ^ (32 - r) + 1) ≤ 2 ^ r * 2 ^ (32 - r) := Nat.mul_le_mul_left _ h1
      rw [← e, Nat.mul_add] at h2
      omega
    · rw [Nat.div_lt_iff_lt_mul (Nat.two_pow_pos _), ← Nat.pow_add, show r + (32 - r) = 32 by omega]
      exact hx
theorem or_shl {r x c : Nat} (hr : r ≤ 32) (hc : c < 2 ^ r) : x * 2 ^ r % 4294967296 ||| c = x * 2 ^ r % 4294967296 + c := by
  have e : (4294967296 : Nat) = 2 ^ r * 2 ^ (32 - r) := by rw [← Nat.pow_add, show r + (32 - r) = 32 by omega]
  rw [show x * 2 ^ r % 4294967296 = 2 ^ r * (x % 2 ^ (32 - r)) by rw [Nat.mul_comm x, e, Nat.mul_mod_mul_left]]
  exact (Nat.two_pow_add_eq_or_of_lt hc _).symm
theorem getD_set (l : List Nat) (i j v : Nat) : (l.set i v).getD j 0 = if i = j ∧ i < l.length then v else l.getD j 0 := by
  rw [List.getD_eq_getElem?_getD, List.getD_eq_getElem?_getD, List.getElem?_set]
  by_cases h : i = j
  · subst h
    by_cases h2 : i < l.length
    · simp [h2]
    · simp [h2]
  · simp [h]
theorem shlG_get (r : Nat) : ∀ (j : Nat) (o : List Nat) (i : Nat), j ≤ o.length → (shlG r j o).getD i 0 = if i < j then (o.getD i 0 * 2 ^ r % 4294967296 ||| (if 0 < i then o.getD (i - 1) 0 / 2 ^ (32 - r) else 0)) else o.getD i 0
  | 0, o, i, _ => by simp [shlG]
  | j + 1, o, i, h => by
    rw [shlG, shlG_get r j _ i (by rw [List.length_set]; omega)]
    by_cases h1 : i < j
    · have n1 : ¬ (j = i ∧ j < o.length) := by omega
      have n2 : ¬ (j = i - 1 ∧ j < o.length) := by omega
      have n3 : i < j + 1 := by omega
      simp only [getD_set, if_pos h1, if_neg n1, if_neg n2, if_pos n3]
    · by_cases h2 : j = i
      · subst h2
        have n1 : j < o.length := by omega
        have n3 : j < j + 1 := by omega
        simp only [getD_set, if_neg h1, n1, and_self, if_true, if_pos n3]
      · have n1 : ¬ (j = i ∧ j < o.length) := by omega
        have n3 : ¬ i < j + 1 := by omega
        simp only [getD_set, if_neg h1, if_neg n1, if_neg n3]
theorem shlC_get {r : Nat} : ∀ (c : Nat) (l : List Nat) (i : Nat), i < l.length → (shlC r c l).getD i 0 = l.getD i 0 * 2 ^ r % 4294967296 + (if 0 < i then l.getD (i - 1) 0 / 2 ^ (32 - r) else c)
  | _, [], _, h => by simp at h
  | c, x :: l, 0, _ => by simp [shlC]
  | c, x :: l, i + 1, h => by
    have := shlC_get (r := r) (x / 2 ^ (32 - r)) l i (by simpa using h)
    rw [shlC, List.getD_cons_succ, this, List.getD_cons_succ, if_pos (Nat.succ_pos i), Nat.add_sub_cancel]
    cases i with
    | zero => simp
    | succ i => rw [if_pos (Nat.succ_pos i), List.getD_cons_succ, Nat.add_sub_cancel]
theorem shlG_eq {r : Nat} (hr : r ≤ 32) {o : List Nat} (hb : Bd o) : shlG r o.length o = shlC r 0 o := by
  apply List.ext_getElem
  · rw [shlG_len, shlC_len]
  · intro i h1 h2
    rw [shlG_len] at h1
    have g := shlG_get r o.length o i (Nat.le_refl _)
    have c := shlC_get (r := r) 0 o i h1
    rw [if_pos h1] at g
    have hc : (if 0 < i then o.getD (i - 1) 0 / 2 ^ (32 - r) else 0) < 2 ^ r := by
      split
      · rw [Nat.div_lt_iff_lt_mul (Nat.two_pow_pos _), ← Nat.pow_add, show r + (32 - r) = 32 by omega]
        exact hb.getD _
      · exact Nat.two_pow_pos r
    rw [or_shl hr hc] at g
    have e : (shlG r o.length o).getD i 0 = (shlC r 0 o).getD i 0 := by rw [g, c]
    rw [List.getD_eq_getElem?_getD, List.getD_eq_getElem?_getD, List.getElem?_eq_getElem (by rw [shlG_len]; exact h1), List.getElem?_eq_getElem (by rw [shlC_len]; exact h1)] at e
    exact e
theorem valL_rep (n : Nat) : valL (List.replicate n 0) = 0 := valL_zero (fun _ hx => (List.mem_replicate.1 hx).2)
/-- limbs moved up by q places, one limb more, and shifted by r bits -/
theorem shl_num {q r : Nat} {l : List Nat} (hr : r < 32) (hb : Bd l) :
    cutL (shlC r 0 (List.replicate q 0 ++ l ++ [0])) = numL (valL l * 2 ^ (32 * q + r)) := by
  have hbo : Bd (List.replicate q 0 ++ l ++ [0]) := fun x hx => by
    simp only [List.mem_append, List.mem_replicate, List.mem_singleton] at hx
    rcases hx with (⟨_, rfl⟩ | h) | rfl
    · decide
    · exact hb x h
    · decide
  have hv : valL (List.replicate q 0 ++ l ++ [0]) = valL l * 2 ^ (32 * q) := by
    rw [valL_app, valL_app, valL_rep, List.length_replicate, pow32 q]
    simp [valL, Nat.mul_comm]
  have h1 := shlC_val (Nat.le_of_lt hr) 0 (List.replicate q 0 ++ l ++ [0])
  have h2 := valL_lt hb
  have h3 := valL_lt (shlC_bd (Nat.le_of_lt hr) 0 (List.replicate q 0 ++ l ++ [0]) (Nat.two_pow_pos r) hbo)
  rw [shlC_len] at h3
  rw [hv, Nat.add_zero, Nat.mul_assoc, ← Nat.pow_add] at h1
  have hlen : (List.replicate q 0 ++ l ++ [0]).length = q + l.length + 1 := by simp; omega
  rw [hlen] at h1 h3
  have hlt : valL l * 2 ^ (32 * q + r) < 4294967296 ^ (q + l.length + 1) := by
    rw [pow32, show 32 * (q + l.length + 1) = 32 * l.length + (32 * q + 32) by omega, Nat.pow_add 2 (32 * l.length)]
    rw [pow32] at h2
    have h4 : 2 ^ (32 * q + r) ≤ 2 ^ (32 * q + 32) := Nat.pow_le_pow_right (by decide) (by omega)
    calc valL l * 2 ^ (32 * q + r) ≤ valL l * 2 ^ (32 * q + 32) := Nat.mul_le_mul_left _ h4
      _ < 2 ^ (32 * l.length) * 2 ^ (32 * q + 32) := Nat.mul_lt_mul_of_pos_right h2 (Nat.two_pow_pos _)
  have ho : shlOut r 0 (List.replicate q 0 ++ l ++ [0]) = 0 := by
    rcases Nat.eq_zero_or_pos (shlOut r 0 (List.replicate q 0 ++ l ++ [0])) with h | h
    · exact h
    · have := Nat.mul_le_mul_left (4294967296 ^ (q + l.length + 1)) h
      omega
  rw [ho, Nat.mul_zero, Nat.add_zero] at h1
  rw [← h1, cutL_num (shlC_bd (Nat.le_of_lt hr) 0 _ (Nat.two_pow_pos r) hbo)]
theorem shlC_zero : ∀ {l : List Nat}, Bd l → shlC 0 0 l = l
  | [], _ => rfl
  | x :: l, h => by
    have hx := h.head
    rw [shlC, Nat.pow_zero, Nat.mul_one, Nat.mod_eq_of_lt hx, Nat.add_zero, show x / 2 ^ (32 - 0) = 0 from Nat.div_eq_of_lt hx, shlC_zero h.tail]
end Go.Proofs.YtiemkfibpfndaaaGreatDoor
