/- PackreadWide: the walk of the law. -/
import Derived.Test.YtfpkjmpkhokodaaGreatDoorPb1
namespace Go.Proofs.YtfpkjmpkhokodaaGreatDoor
open Go.RowKit

theorem bytes_doc {hd r : ByteArray} (h : ∀ inner, itemF Wd (hd ++ r) inner 0 = famR Wd (hd ++ r) inner 0 .bytes r.size hd.size) : readN Wd (hd ++ r) = .ok (V.byt r) (hd ++ r).size :=
  readN_of (by rw [itemN_inD, h, bytes_rest])
theorem ext_doc {hd r : ByteArray} {t : Nat} (ht : t < 256) (h : ∀ inner, itemF Wd (hd ++ (Bt [t] ++ r)) inner 0 = famR Wd (hd ++ (Bt [t] ++ r)) inner 0 .ext r.size hd.size) : readN Wd (hd ++ Bt [t] ++ r) = .ok (V.xt (if t < 128 then (t : Int) else (t : Int) - 256) r) (hd ++ Bt [t] ++ r).size := by
  rw [ByteArray.append_assoc]
  exact readN_of (by rw [itemN_inD, h, ext_rest Wd hd t ht])
/-- a text behind a head, if it is one -/
theorem text_doc {hd r : ByteArray} (h : ∀ inner, itemF Wd (hd ++ r) inner 0 = famR Wd (hd ++ r) inner 0 .text r.size hd.size) : readN Wd (hd ++ r) = match scanN r.size (bl r) r.size with
    | some i => .bad 3 (hd.size + i)
    | none => .ok (V.tex r) (hd ++ r).size := by
  cases hs : scanN r.size (bl r) r.size with
  | none => exact readN_of (by rw [itemN_inD, h, text_rest, hs])
  | some i =>
    unfold readN
    rw [itemN_inD, h, text_rest, hs]
    rfl
theorem pick_txt (k : Nat) (h : k < 32) : pickN (160 + k) = some (.text, k, 0) := by
  unfold pickN
  rw [if_neg (by omega), if_neg (by omega), if_neg (by omega), if_pos (by omega)]
  congr 3
  omega
theorem flatEB (l : List Nat) : EB.flat l = l.map fun x : Nat => Value.int .u8 (x : Int) := by
  unfold El.flat
  simp only [EB]
  induction l with
  | nil => rfl
  | cons a l ih => simp only [List.flatMap_cons, List.map_cons, ih, List.singleton_append]
/-- the string of bytes in a new block -/
theorem str_new {w0 w : World} {b : Nat} {l : List Nat} (h : NewAt w0 (l.map fun x : Nat => Value.int .u8 (x : Int)) b w) (hb : B8 l) (h0 : l ≠ []) (hn : l.length ≤ 1000) : (convert 44 9 (.slice (some ⟨b, 0, none⟩) l.length l.length)).run Tryz.prog w = .ok (.string (Bt l)) w := by
  refine str_conv (c := l.length) ⟨Nat.le_refl _, by omega, fun _ => ⟨b, 0, rfl, ?_⟩⟩ rfl hb h0
  rw [flatEB]
  exact h.2.1

set_option maxRecDepth 100000 in
set_option maxHeartbeats 8000000 in
theorem lawW_ok (s : ByteArray) (t : Int) (ht1 : -128 ≤ t) (ht2 : t ≤ 127) (A : Option Addr) (c n : Nat) (xs : List ByteArray) (hmax : s.size ≤ 9223372036854775807) (B : Nat) (sa : Nat → Addr) (w : World) (g : GL B sa w) (hn : xs.length = n) (h : Sl ES w A c xs) :
    Calls Tryz.prog 4 #[.string s, .int .i8 t, .slice A n c] w fun e w' => e = .returned (.bool true) ∧ Keep nob w w' := by
  have i1 : IntKind.u64.wrap (s.size : Int) = (s.size : Int) := by rw [IntKind.wrap_u64]; omega
  by_cases hbig : 32768 < s.size
  · have d1 : decide ((s.size : Int) > 32768) = true := by rw [decide_eq_true_iff]; omega
    have d2 : decide (32768 < s.size) = true := by rw [decide_eq_true_iff]; exact hbig
    clear g h hn
    go_enter Tryz.func4, Tryz.ntmps4
    go_wp2
    go_ret
    exact ⟨rfl, Keep.refl _ _⟩
  have hd1 : decide ((s.size : Int) > 32768) = false := by rw [decide_eq_false_iff_not]; omega
  have hd2 : decide (32768 < s.size) = false := by rw [decide_eq_false_iff_not]; exact hbig
  have hs : s.size ≤ 32768 := by omega
  have HG := Lib.hid g
  have HL := Lib.hid (fun (W : World) (hk : Keep nob w W) => listed_ok A c n xs B sa W (g.keep hk (fun _ h => h.elim)) hn (h.keep hk (fun ⟨_, _, h⟩ => h)))
  obtain ⟨tb, HTB⟩ : ∃ tb : Nat, Hid (t % 256 = (tb : Int)) := ⟨(t % 256).toNat, Lib.hid (by omega)⟩
  have htb : tb < 256 := by have h1 : t % 256 = (tb : Int) := HTB.out; omega
  have htt : (if tb < 128 then (tb : Int) else (tb : Int) - 256) = t := by have h1 : t % 256 = (tb : Int) := HTB.out; split <;> omega
  have i2 : IntKind.u8.wrap t = (tb : Int) := by rw [IntKind.wrap_u8]; exact HTB.out
  clear g h hn hbig ht1 ht2
  obtain ⟨st, HST⟩ : ∃ x, Hid (Bt [tb] = x) := ⟨_, Lib.hid rfl⟩
  have zst : st.size = 1 := by rw [← HST.out, Bt_size]; rfl
  obtain ⟨sc6, HSc6⟩ : ∃ x, Hid (Bt (198 :: beL 4 s.size) = x) := ⟨_, Lib.hid rfl⟩
  have Lc6 : Hid (∀ W, Calls Tryz.prog 11 #[.int .u8 198, .int .i64 4, .int .u64 (s.size : Int)] W fun e w' => e = .returned (.string sc6) ∧ Keep nob W w') := Lib.hid (fun W => by rw [← HSc6.out]; exact wide_ok 198 4 s.size (by decide) (by decide) W)
  have Wc6 : Hid (∀ W, Keep nob w W → Calls Tryz.prog 11 #[.int .u8 198, .int .i64 4, .int .u64 (s.size : Int)] W fun e w' => e = .returned (.string sc6) ∧ Keep nob w w') := Lib.hid (fun W hk => (Lc6.out W).mono fun e w' ⟨h1, h2⟩ => ⟨h1, hk.then_ h2⟩)
  have zc6 : sc6.size = 5 := by rw [← HSc6.out, wide_size]
  have Tc6 : Hid (readT (sc6 ++ s) = .ok (V.byt s) (sc6 ++ s).size) := Lib.hid (readT_of (bytes_doc (fun inner => by rw [zc6, ← HSc6.out]; exact head_wide Wd (f := 198) (w := 4) (x := s.size) (n := 0) (fam := .bytes) (by decide) rfl (by decide) (by omega) _ inner)) (by rw [ByteArray.size_append]; omega))
  obtain ⟨sc5, HSc5⟩ : ∃ x, Hid (Bt (197 :: beL 2 s.size) = x) := ⟨_, Lib.hid rfl⟩
  have Lc5 : Hid (∀ W, Calls Tryz.prog 11 #[.int .u8 197, .int .i64 2, .int .u64 (s.size : Int)] W fun e w' => e = .returned (.string sc5) ∧ Keep nob W w') := Lib.hid (fun W => by rw [← HSc5.out]; exact wide_ok 197 2 s.size (by decide) (by decide) W)
  have Wc5 : Hid (∀ W, Keep nob w W → Calls Tryz.prog 11 #[.int .u8 197, .int .i64 2, .int .u64 (s.size : Int)] W fun e w' => e = .returned (.string sc5) ∧ Keep nob w w') := Lib.hid (fun W hk => (Lc5.out W).mono fun e w' ⟨h1, h2⟩ => ⟨h1, hk.then_ h2⟩)
  have zc5 : sc5.size = 3 := by rw [← HSc5.out, wide_size]
  have Tc5 : Hid (readT (sc5 ++ s) = .ok (V.byt s) (sc5 ++ s).size) := Lib.hid (readT_of (bytes_doc (fun inner => by rw [zc5, ← HSc5.out]; exact head_wide Wd (f := 197) (w := 2) (x := s.size) (n := 0) (fam := .bytes) (by decide) rfl (by decide) (by omega) _ inner)) (by rw [ByteArray.size_append]; omega))
  obtain ⟨sc9, HSc9⟩ : ∃ x, Hid (Bt (201 :: beL 4 s.size) = x) := ⟨_, Lib.hid rfl⟩
  have Lc9 : Hid (∀ W, Calls Tryz.prog 11 #[.int .u8 201, .int .i64 4, .int .u64 (s.size : Int)] W fun e w' => e = .returned (.string sc9) ∧ Keep nob W w') := Lib.hid (fun W => by rw [← HSc9.out]; exact wide_ok 201 4 s.size (by decide) (by decide) W)
  have Wc9 : Hid (∀ W, Keep nob w W → Calls Tryz.prog 11 #[.int .u8 201, .int .i64 4, .int .u64 (s.size : Int)] W fun e w' => e = .returned (.string sc9) ∧ Keep nob w w') := Lib.hid (fun W hk => (Lc9.out W).mono fun e w' ⟨h1, h2⟩ => ⟨h1, hk.then_ h2⟩)
  have zc9 : sc9.size = 5 := by rw [← HSc9.out, wide_size]
  have Tc9 : Hid (readT (sc9 ++ st ++ s) = .ok (V.xt t s) (sc9 ++ st ++ s).size) := by
    have h1 := ext_doc (hd := sc9) (r := s) htb (fun inner => by rw [zc9, ← HSc9.out]; exact head_wide Wd (f := 201) (w := 4) (x := s.size) (n := 0) (fam := .ext) (by decide) rfl (by decide) (by omega) _ inner)
    rw [htt, HST.out] at h1
    exact Lib.hid (readT_of h1 (by rw [ByteArray.size_append, ByteArray.size_append]; omega))
  obtain ⟨sc8, HSc8⟩ : ∃ x, Hid (Bt (200 :: beL 2 s.size) = x) := ⟨_, Lib.hid rfl⟩
  have Lc8 : Hid (∀ W, Calls Tryz.prog 11 #[.int .u8 200, .int .i64 2, .int .u64 (s.size : Int)] W fun e w' => e = .returned (.string sc8) ∧ Keep nob W w') := Lib.hid (fun W => by rw [← HSc8.out]; exact wide_ok 200 2 s.size (by decide) (by decide) W)
  have Wc8 : Hid (∀ W, Keep nob w W → Calls Tryz.prog 11 #[.int .u8 200, .int .i64 2, .int .u64 (s.size : Int)] W fun e w' => e = .returned (.string sc8) ∧ Keep nob w w') := Lib.hid (fun W hk => (Lc8.out W).mono fun e w' ⟨h1, h2⟩ => ⟨h1, hk.then_ h2⟩)
  have zc8 : sc8.size = 3 := by rw [← HSc8.out, wide_size]
  have Tc8 : Hid (readT (sc8 ++ st ++ s) = .ok (V.xt t s) (sc8 ++ st ++ s).size) := by
    have h1 := ext_doc (hd := sc8) (r := s) htb (fun inner => by rw [zc8, ← HSc8.out]; exact head_wide Wd (f := 200) (w := 2) (x := s.size) (n := 0) (fam := .ext) (by decide) rfl (by decide) (by omega) _ inner)
    rw [htt, HST.out] at h1
    exact Lib.hid (readT_of h1 (by rw [ByteArray.size_append, ByteArray.size_append]; omega))
  obtain ⟨sdb, HSdb⟩ : ∃ x, Hid (Bt (219 :: beL 4 s.size) = x) := ⟨_, Lib.hid rfl⟩
  have Ldb : Hid (∀ W, Calls Tryz.prog 11 #[.int .u8 219, .int .i64 4, .int .u64 (s.size : Int)] W fun e w' => e = .returned (.string sdb) ∧ Keep nob W w') := Lib.hid (fun W => by rw [← HSdb.out]; exact wide_ok 219 4 s.size (by decide) (by decide) W)
  have Wdb : Hid (∀ W, Keep nob w W → Calls Tryz.prog 11 #[.int .u8 219, .int .i64 4, .int .u64 (s.size : Int)] W fun e w' => e = .returned (.string sdb) ∧ Keep nob w w') := Lib.hid (fun W hk => (Ldb.out W).mono fun e w' ⟨h1, h2⟩ => ⟨h1, hk.then_ h2⟩)
  have zdb : sdb.size = 5 := by rw [← HSdb.out, wide_size]
  have Tdb : Hid (readT (sdb ++ s) = match scanN s.size (bl s) s.size with
    | some i => .bad 3 (sdb.size + i)
    | none => .ok (V.tex s) (sdb ++ s).size) := Lib.hid (readT_of (text_doc (fun inner => by rw [zdb, ← HSdb.out]; exact head_wide Wd (f := 219) (w := 4) (x := s.size) (n := 0) (fam := .text) (by decide) rfl (by decide) (by omega) _ inner)) (by rw [ByteArray.size_append]; omega))
  obtain ⟨sda, HSda⟩ : ∃ x, Hid (Bt (218 :: beL 2 s.size) = x) := ⟨_, Lib.hid rfl⟩
  have Lda : Hid (∀ W, Calls Tryz.prog 11 #[.int .u8 218, .int .i64 2, .int .u64 (s.size : Int)] W fun e w' => e = .returned (.string sda) ∧ Keep nob W w') := Lib.hid (fun W => by rw [← HSda.out]; exact wide_ok 218 2 s.size (by decide) (by decide) W)
  have Wda : Hid (∀ W, Keep nob w W → Calls Tryz.prog 11 #[.int .u8 218, .int .i64 2, .int .u64 (s.size : Int)] W fun e w' => e = .returned (.string sda) ∧ Keep nob w w') := Lib.hid (fun W hk => (Lda.out W).mono fun e w' ⟨h1, h2⟩ => ⟨h1, hk.then_ h2⟩)
  have zda : sda.size = 3 := by rw [← HSda.out, wide_size]
  have Tda : Hid (readT (sda ++ s) = match scanN s.size (bl s) s.size with
    | some i => .bad 3 (sda.size + i)
    | none => .ok (V.tex s) (sda ++ s).size) := Lib.hid (readT_of (text_doc (fun inner => by rw [zda, ← HSda.out]; exact head_wide Wd (f := 218) (w := 2) (x := s.size) (n := 0) (fam := .text) (by decide) rfl (by decide) (by omega) _ inner)) (by rw [ByteArray.size_append]; omega))
  have EL1 : Hid (∀ W, Keep nob w W → Calls Tryz.prog 12 #[.string (sc6 ++ s), .string (sc5 ++ s)] W fun e w' => e = .returned (.bool true) ∧ Keep nob W w') := Lib.hid (fun W hk => same_law _ _ _ _ _ Tc6.out Tc5.out B sa W (HG.out.keep hk (fun _ h => h.elim)))
  have E1 : Hid (∀ W, Keep nob w W → Calls Tryz.prog 12 #[.string (sc6 ++ s), .string (sc5 ++ s)] W fun e w' => e = .returned (.bool true) ∧ Keep nob w w') := Lib.hid (fun W hk => (EL1.out W hk).mono fun e w' ⟨h1, h2⟩ => ⟨h1, hk.then_ h2⟩)
  have EL2 : Hid (∀ W, Keep nob w W → Calls Tryz.prog 12 #[.string (sc9 ++ st ++ s), .string (sc8 ++ st ++ s)] W fun e w' => e = .returned (.bool true) ∧ Keep nob W w') := Lib.hid (fun W hk => same_law _ _ _ _ _ Tc9.out Tc8.out B sa W (HG.out.keep hk (fun _ h => h.elim)))
  have E2 : Hid (∀ W, Keep nob w W → Calls Tryz.prog 12 #[.string (sc9 ++ st ++ s), .string (sc8 ++ st ++ s)] W fun e w' => e = .returned (.bool true) ∧ Keep nob w w') := Lib.hid (fun W hk => (EL2.out W hk).mono fun e w' ⟨h1, h2⟩ => ⟨h1, hk.then_ h2⟩)
  have R1 : Hid (∀ W, Keep nob w W → Calls Tryz.prog 7 #[.string (sc6 ++ s)] W fun e w' => Keep nob w w' ∧ ∃ r : Raw, e = .returned (.tuple #[.agg #[.int .i8 6, .int .u64 (r.n : Int), .bool r.neg, .slice r.mA r.mL r.mC, .int .u64 (r.bits : Int), .int .i8 r.ext, .string s, .slice r.kA r.kL r.kC], .nilIface])) := by
    refine Lib.hid (fun W hk' => ?_)
    have h := read_all (sc6 ++ s) B sa W (HG.out.keep hk' (fun _ h => h.elim))
    rw [Tc6.out] at h
    refine h.mono fun e w' hp => ?_
    obtain ⟨h2, r, rfl, ht⟩ := hp
    unfold V.byt Tr at ht
    obtain ⟨h4, -, -, -, -, h5, -⟩ := ht
    exact ⟨hk'.then_ h2, r, by simp only [ER, h4, h5]; rfl⟩
  have R2 : Hid (∀ W, Keep nob w W → Calls Tryz.prog 7 #[.string (sc9 ++ st ++ s)] W fun e w' => Keep nob W w' ∧ ∃ r : Raw, e = .returned (.tuple #[.agg #[.int .i8 11, .int .u64 (r.n : Int), .bool r.neg, .slice r.mA r.mL r.mC, .int .u64 (r.bits : Int), .int .i8 t, .string s, .slice r.kA r.kL r.kC], .nilIface])) := by
    refine Lib.hid (fun W hk' => ?_)
    have h := read_all (sc9 ++ st ++ s) B sa W (HG.out.keep hk' (fun _ h => h.elim))
    rw [Tc9.out] at h
    refine h.mono fun e w' hp => ?_
    obtain ⟨h2, r, rfl, ht⟩ := hp
    unfold V.xt Tr at ht
    obtain ⟨h4, -, -, -, h6, h5, -⟩ := ht
    exact ⟨h2, r, by simp only [ER, h4, h5, h6]; rfl⟩
  have HLV : Hid (∀ W, Keep nob w W → Calls Tryz.prog 10 #[] W fun e w' => e = .returned (.bool true) ∧ Keep nob w w') := Lib.hid (fun W hk => (lives_ok B sa W (HG.out.keep hk (fun _ h => h.elim))).mono fun e w' ⟨h1, h2⟩ => ⟨h1, hk.then_ h2⟩)
  have HLI : Hid (∀ W, Keep nob w W → Calls Tryz.prog 13 #[.slice A n c] W fun e w' => e = .returned (.bool true) ∧ Keep nob w w') := Lib.hid (fun W hk => (HL.out W hk).mono fun e w' ⟨h1, h2⟩ => ⟨h1, hk.then_ h2⟩)
  have qc6 : (9223372036854775807 < sc6.size + s.size) = False := eq_false (by omega)
  have qc5 : (9223372036854775807 < sc5.size + s.size) = False := eq_false (by omega)
  have qdb : (9223372036854775807 < sdb.size + s.size) = False := eq_false (by omega)
  have qda : (9223372036854775807 < sda.size + s.size) = False := eq_false (by omega)
  have qc9 : (9223372036854775807 < sc9.size + st.size) = False := eq_false (by omega)
  have qc9' : (9223372036854775807 < sc9.size + st.size + s.size) = False := eq_false (by omega)
  have qc8 : (9223372036854775807 < sc8.size + st.size) = False := eq_false (by omega)
  have qc8' : (9223372036854775807 < sc8.size + st.size + s.size) = False := eq_false (by omega)
  have HZ := Lib.hid (And.intro hs (And.intro zst (And.intro zdb zda)))
  clear zst zc6 zc5 zc9 zc8 zdb zda hs HL
  have hk0 : Keep nob w w := Keep.refl _ _
  go_enter Tryz.func4, Tryz.ntmps4
  go_upto_region 7 with (first | (go_at_call 11; (with_reducible refine (Wc6.out _ (by first | assumption | exact Keep.alloc (by assumption) _)).mono ?_); rintro e w2 ⟨rfl, hk2⟩) | (go_at_call 11; (with_reducible refine (Wc5.out _ (by first | assumption | exact Keep.alloc (by assumption) _)).mono ?_); rintro e w2 ⟨rfl, hk2⟩) | (go_at_call 12; (with_reducible refine (E1.out _ (by first | assumption | exact Keep.alloc (by assumption) _)).mono ?_); rintro e w2 ⟨rfl, hk2⟩) | (go_at_call 7; (with_reducible refine (R1.out _ (by first | assumption | exact Keep.alloc (by assumption) _)).mono ?_); rintro e w2 ⟨hk2, r, rfl⟩))
  have HKA : Hid (Keep nob w w2) := Lib.hid (by assumption)
  refine wp_region_fxl 14 [.p, .cv (.string sc9), .p, .p, .al, .kv, .p, .p, .p, .cf (fun x => .tuple #[.agg #[.int .i8 11, .int .u64 (x.r.n : Int), .bool x.r.neg, .slice x.r.mA x.r.mL x.r.mC, .int .u64 (x.r.bits : Int), .int .i8 t, .string s, .slice x.r.kA x.r.kL x.r.kC], .nilIface]) (fun _ _ => True), .p, .p, .p, .al] [12] nob (fun _ => True) (fun _ _ _ _ => trivial) trivial (by kernel_rfl) (by kernel_rfl) ?_
  simp only [List.take_succ_cons, List.take_zero, List.drop_succ_cons, List.drop_zero]
  refine fx_p ?_ (by rfl) (fun w' => ?_) (fun K hK => ?_); rotate_left; (go_simp; first | done | exact rfl); go_simp; refine hK _ ?_; clear hK K
  refine fx_cv (f := ?_) (args := ?_) (by rfl) (fun w' => ?_) (fun w' hw' ha => ?_) (fun K hK => ?_); rotate_left 2; (go_simp; first | done | (refine And.intro ?_ ?_ <;> exact rfl) | exact rfl); (exact Lc9.out _); go_simp; refine hK _ ?_; clear hK K
  refine fx_p ?_ (by rfl) (fun w' => ?_) (fun K hK => ?_); rotate_left; (go_simp; first | done | exact rfl); go_simp; refine hK _ ?_; clear hK K
  refine fx_p ?_ (by rfl) (fun w' => ?_) (fun K hK => ?_); rotate_left; (go_simp; first | done | exact rfl); go_simp; refine hK _ ?_; clear hK K
  refine fx_new (fun _ h => h.elim) (fun b => .slice (some ⟨b, 0, none⟩) 1 1) ?_ ?_ (by rfl) (fun w' hw' ha => ?_) (fun K hK b1 => ?_); rotate_left 2; (skip; go_simp; first | done | exact rfl); go_simp; refine hK _ _ ?_; clear hK K
  refine fx_kv ?_ (by rfl) (fun w' hw' ha => ?_) (fun K hK => ?_); rotate_left; (have hb := ha _ List.mem_cons_self (by kernel_rfl); have hc := str_new (l := [tb]) hb (B8.cons htb (fun _ h => by simp at h)) (by simp) (by simp); rw [HST.out] at hc; simp only [List.length_singleton] at hc; clear hb; go_simp; first | done | exact rfl); go_simp; refine hK _ ?_; clear hK K
  refine fx_p ?_ (by rfl) (fun w' => ?_) (fun K hK => ?_); rotate_left; (go_simp; first | done | exact rfl); go_simp; refine hK _ ?_; clear hK K
  refine fx_p ?_ (by rfl) (fun w' => ?_) (fun K hK => ?_); rotate_left; (go_simp; first | done | exact rfl); go_simp; refine hK _ ?_; clear hK K
  refine fx_p ?_ (by rfl) (fun w' => ?_) (fun K hK => ?_); rotate_left; (go_simp; first | done | exact rfl); go_simp; refine hK _ ?_; clear hK K
  refine fx_cf (f := ?_) (args := ?_) (by rfl) (fun _ _ _ _ _ => trivial) (fun w' => ?_) (fun w' hw' ha => ?_) (fun K hK x => ?_); rotate_left 2; (go_simp; first | done | (refine And.intro ?_ ?_ <;> exact rfl) | exact rfl); (refine (R2.out _ (HKA.out.then_ hw'.keep)).mono ?_; rintro e w3 ⟨h2, r, rfl⟩; exact ⟨⟨undef, 0, r⟩, rfl, h2, trivial⟩); go_simp; refine hK _ _ ?_; clear hK K
  refine fx_p ?_ (by rfl) (fun w' => ?_) (fun K hK => ?_); rotate_left; (go_simp; first | done | exact rfl); go_simp; refine hK _ ?_; clear hK K
  refine fx_p ?_ (by rfl) (fun w' => ?_) (fun K hK => ?_); rotate_left; (go_simp; first | done | exact rfl); go_simp; refine hK _ ?_; clear hK K
  refine fx_p ?_ (by rfl) (fun w' => ?_) (fun K hK => ?_); rotate_left; (go_simp; first | done | exact rfl); go_simp; refine hK _ ?_; clear hK K
  refine fx_new (fun _ h => h.elim) (fun b => .pointer (some ⟨b, 0, none⟩)) ?_ ?_ (by rfl) (fun w' hw' ha => ?_) (fun K hK b2 => ?_); rotate_left 2; (skip; go_simp; first | done | exact rfl); go_simp; refine hK _ _ ?_; clear hK K
  refine fx_nil ?_
  intro w9 hk9 hΓ
  have HK9 := Lib.hid hk9.keep
  have HFb1 := Lib.hid (hΓ _ (List.mem_cons_of_mem _ (List.mem_cons_of_mem _ List.mem_cons_self)))
  have HFx := Lib.hid (hΓ _ (List.mem_cons_of_mem _ List.mem_cons_self))
  have HFb2 := Lib.hid (hΓ _ List.mem_cons_self)
  clear hk9 hΓ
  have HT9 : Hid (w9.there b2 0 8) := Lib.hid HFb2.out.2.2
  have hb2 : w2.heap.size ≤ b2 := HFb2.out.1
  obtain ⟨v0, v1, v2, v3, v4, v5, v6, v7, ⟨c0, c1, c2, c3, c4, c5, c6, c7⟩, f0, f1, f2, f3, f4, f5, f6, f7⟩ := eight HT9.out
  go_wp2_with (fail)
  obtain ⟨w10, e10, r10, k10⟩ := put8 HT9.out ⟨11, x.r.n, x.r.neg, x.r.mA, x.r.mL, x.r.mC, x.r.bits, t, s, x.r.kA, x.r.kL, x.r.kC⟩ (.int .i8 11) (.int .u64 (x.r.n : Int)) (.bool x.r.neg) (.slice x.r.mA x.r.mL x.r.mC) (.int .u64 (x.r.bits : Int)) (.int .i8 t) (.string s) (.slice x.r.kA x.r.kL x.r.kC) rfl
  rw [e10.out]
  refine tailQ_n ?_
  have HR10 := Lib.hid r10
  have HK10 : Hid (Keep nob w w10) := Lib.hid ((HKA.out.then_ HK9.out).trans k10 (fun j hj e => by have := HKA.out.size; omega))
  clear r10 k10 c0 c1 c2 c3 c4 c5 c6 c7 f0 f1 f2 f3 f4 f5 f6 f7
  go_upto_region 8 with (fail)
  refine wp_region_fx 41 [.p, .p, .p, .p, .kv, .p, .p, .p, .p, .kv, .p, .p, .p, .p, .p, .kv, .p, .p, .p, .p, .p, .cv (.string sc9), .p, .p, .al, .kv, .p, .p, .p, .p, .cv (.string sc8), .p, .p, .al, .kv, .p, .p, .p, .cv (.bool true), .p, .p] [] nob (fun _ => True) (fun _ _ _ _ => trivial) trivial (by kernel_rfl) (by kernel_rfl) (fun h => absurd rfl h) ?_
  simp only [List.take_succ_cons, List.take_zero, List.drop_succ_cons, List.drop_zero]
  refine fx_p ?_ (by rfl) (fun w' => ?_) (fun K hK => ?_); rotate_left; (go_simp; first | done | exact rfl); go_simp; refine hK _ ?_; clear hK K
  refine fx_p ?_ (by rfl) (fun w' => ?_) (fun K hK => ?_); rotate_left; (go_simp; first | done | exact rfl); go_simp; refine hK _ ?_; clear hK K
  refine fx_p ?_ (by rfl) (fun w' => ?_) (fun K hK => ?_); rotate_left; (go_simp; first | done | exact rfl); go_simp; refine hK _ ?_; clear hK K
  refine fx_p ?_ (by rfl) (fun w' => ?_) (fun K hK => ?_); rotate_left; (go_simp; first | done | exact rfl); go_simp; refine hK _ ?_; clear hK K
  refine fx_kv ?_ (by rfl) (fun w' hw' ha => ?_) (fun K hK => ?_); rotate_left; (obtain ⟨e0, e1, e2, e3, e4, e5, e6, e7⟩ := cells_val (range_keep hw'.keep HR10.out); dsimp only at e0 e1 e2 e3 e4 e5 e6 e7; go_simp; first | done | exact rfl); go_simp; refine hK _ ?_; clear hK K
  refine fx_p ?_ (by rfl) (fun w' => ?_) (fun K hK => ?_); rotate_left; (go_simp; first | done | exact rfl); go_simp; refine hK _ ?_; clear hK K
  refine fx_p ?_ (by rfl) (fun w' => ?_) (fun K hK => ?_); rotate_left; (go_simp; first | done | exact rfl); go_simp; refine hK _ ?_; clear hK K
  refine fx_p ?_ (by rfl) (fun w' => ?_) (fun K hK => ?_); rotate_left; (go_simp; first | done | exact rfl); go_simp; refine hK _ ?_; clear hK K
  refine fx_p ?_ (by rfl) (fun w' => ?_) (fun K hK => ?_); rotate_left; (go_simp; first | done | exact rfl); go_simp; refine hK _ ?_; clear hK K
  refine fx_kv ?_ (by rfl) (fun w' hw' ha => ?_) (fun K hK => ?_); rotate_left; (obtain ⟨e0, e1, e2, e3, e4, e5, e6, e7⟩ := cells_val (range_keep hw'.keep HR10.out); dsimp only at e0 e1 e2 e3 e4 e5 e6 e7; go_simp; first | done | exact rfl); go_simp; refine hK _ ?_; clear hK K
  refine fx_p ?_ (by rfl) (fun w' => ?_) (fun K hK => ?_); rotate_left; (go_simp; first | done | exact rfl); go_simp; refine hK _ ?_; clear hK K
  refine fx_p ?_ (by rfl) (fun w' => ?_) (fun K hK => ?_); rotate_left; (go_simp; first | done | exact rfl); go_simp; refine hK _ ?_; clear hK K
  refine fx_p ?_ (by rfl) (fun w' => ?_) (fun K hK => ?_); rotate_left; (go_simp; first | done | exact rfl); go_simp; refine hK _ ?_; clear hK K
  refine fx_p ?_ (by rfl) (fun w' => ?_) (fun K hK => ?_); rotate_left; (go_simp; first | done | exact rfl); go_simp; refine hK _ ?_; clear hK K
  refine fx_p ?_ (by rfl) (fun w' => ?_) (fun K hK => ?_); rotate_left; (go_simp; first | done | exact rfl); go_simp; refine hK _ ?_; clear hK K
  refine fx_kv ?_ (by rfl) (fun w' hw' ha => ?_) (fun K hK => ?_); rotate_left; (obtain ⟨e0, e1, e2, e3, e4, e5, e6, e7⟩ := cells_val (range_keep hw'.keep HR10.out); dsimp only at e0 e1 e2 e3 e4 e5 e6 e7; go_simp; first | done | exact rfl); go_simp; refine hK _ ?_; clear hK K
  refine fx_p ?_ (by rfl) (fun w' => ?_) (fun K hK => ?_); rotate_left; (go_simp; first | done | exact rfl); go_simp; refine hK _ ?_; clear hK K
  refine fx_p ?_ (by rfl) (fun w' => ?_) (fun K hK => ?_); rotate_left; (go_simp; first | done | exact rfl); go_simp; refine hK _ ?_; clear hK K
  refine fx_p ?_ (by rfl) (fun w' => ?_) (fun K hK => ?_); rotate_left; (go_simp; first | done | exact rfl); go_simp; refine hK _ ?_; clear hK K
  refine fx_p ?_ (by rfl) (fun w' => ?_) (fun K hK => ?_); rotate_left; (go_simp; first | done | exact rfl); go_simp; refine hK _ ?_; clear hK K
  refine fx_p ?_ (by rfl) (fun w' => ?_) (fun K hK => ?_); rotate_left; (go_simp; first | done | exact rfl); go_simp; refine hK _ ?_; clear hK K
  refine fx_cv (f := ?_) (args := ?_) (by rfl) (fun w' => ?_) (fun w' hw' ha => ?_) (fun K hK => ?_); rotate_left 2; (go_simp; first | done | (refine And.intro ?_ ?_ <;> exact rfl) | exact rfl); (exact Lc9.out _); go_simp; refine hK _ ?_; clear hK K
  refine fx_p ?_ (by rfl) (fun w' => ?_) (fun K hK => ?_); rotate_left; (go_simp; first | done | exact rfl); go_simp; refine hK _ ?_; clear hK K
  refine fx_p ?_ (by rfl) (fun w' => ?_) (fun K hK => ?_); rotate_left; (go_simp; first | done | exact rfl); go_simp; refine hK _ ?_; clear hK K
  refine fx_new (fun _ h => h.elim) (fun b => .slice (some ⟨b, 0, none⟩) 1 1) ?_ ?_ (by rfl) (fun w' hw' ha => ?_) (fun K hK b3 => ?_); rotate_left 2; (obtain ⟨e0, e1, e2, e3, e4, e5, e6, e7⟩ := cells_val (range_keep hw'.keep HR10.out); dsimp only at e0 e1 e2 e3 e4 e5 e6 e7; go_simp; first | done | exact rfl); go_simp; refine hK _ _ ?_; clear hK K
  refine fx_kv ?_ (by rfl) (fun w' hw' ha => ?_) (fun K hK => ?_); rotate_left; (have hb := ha _ List.mem_cons_self (by kernel_rfl); have hc := str_new (l := [tb]) hb (B8.cons htb (fun _ h => by simp at h)) (by simp) (by simp); rw [HST.out] at hc; simp only [List.length_singleton] at hc; clear hb; go_simp; first | done | exact rfl); go_simp; refine hK _ ?_; clear hK K
  refine fx_p ?_ (by rfl) (fun w' => ?_) (fun K hK => ?_); rotate_left; (go_simp; first | done | exact rfl); go_simp; refine hK _ ?_; clear hK K
  refine fx_p ?_ (by rfl) (fun w' => ?_) (fun K hK => ?_); rotate_left; (go_simp; first | done | exact rfl); go_simp; refine hK _ ?_; clear hK K
  refine fx_p ?_ (by rfl) (fun w' => ?_) (fun K hK => ?_); rotate_left; (go_simp; first | done | exact rfl); go_simp; refine hK _ ?_; clear hK K
  refine fx_p ?_ (by rfl) (fun w' => ?_) (fun K hK => ?_); rotate_left; (go_simp; first | done | exact rfl); go_simp; refine hK _ ?_; clear hK K
  refine fx_cv (f := ?_) (args := ?_) (by rfl) (fun w' => ?_) (fun w' hw' ha => ?_) (fun K hK => ?_); rotate_left 2; (go_simp; first | done | (refine And.intro ?_ ?_ <;> exact rfl) | exact rfl); (exact Lc8.out _); go_simp; refine hK _ ?_; clear hK K
  refine fx_p ?_ (by rfl) (fun w' => ?_) (fun K hK => ?_); rotate_left; (go_simp; first | done | exact rfl); go_simp; refine hK _ ?_; clear hK K
  refine fx_p ?_ (by rfl) (fun w' => ?_) (fun K hK => ?_); rotate_left; (go_simp; first | done | exact rfl); go_simp; refine hK _ ?_; clear hK K
  refine fx_new (fun _ h => h.elim) (fun b => .slice (some ⟨b, 0, none⟩) 1 1) ?_ ?_ (by rfl) (fun w' hw' ha => ?_) (fun K hK b4 => ?_); rotate_left 2; (obtain ⟨e0, e1, e2, e3, e4, e5, e6, e7⟩ := cells_val (range_keep hw'.keep HR10.out); dsimp only at e0 e1 e2 e3 e4 e5 e6 e7; go_simp; first | done | exact rfl); go_simp; refine hK _ _ ?_; clear hK K
  refine fx_kv ?_ (by rfl) (fun w' hw' ha => ?_) (fun K hK => ?_); rotate_left; (have hb := ha _ List.mem_cons_self (by kernel_rfl); have hc := str_new (l := [tb]) hb (B8.cons htb (fun _ h => by simp at h)) (by simp) (by simp); rw [HST.out] at hc; simp only [List.length_singleton] at hc; clear hb; go_simp; first | done | exact rfl); go_simp; refine hK _ ?_; clear hK K
  refine fx_p ?_ (by rfl) (fun w' => ?_) (fun K hK => ?_); rotate_left; (go_simp; first | done | exact rfl); go_simp; refine hK _ ?_; clear hK K
  refine fx_p ?_ (by rfl) (fun w' => ?_) (fun K hK => ?_); rotate_left; (go_simp; first | done | exact rfl); go_simp; refine hK _ ?_; clear hK K
  refine fx_p ?_ (by rfl) (fun w' => ?_) (fun K hK => ?_); rotate_left; (go_simp; first | done | exact rfl); go_simp; refine hK _ ?_; clear hK K
  refine fx_cv (f := ?_) (args := ?_) (by rfl) (fun w' => ?_) (fun w' hw' ha => ?_) (fun K hK => ?_); rotate_left 2; (go_simp; first | done | (refine And.intro ?_ ?_ <;> exact rfl) | exact rfl); (exact EL2.out _ (HK10.out.then_ hw'.keep)); go_simp; refine hK _ ?_; clear hK K
  refine fx_p ?_ (by rfl) (fun w' => ?_) (fun K hK => ?_); rotate_left; (go_simp; first | done | exact rfl); go_simp; refine hK _ ?_; clear hK K
  refine fx_p ?_ (by rfl) (fun w' => ?_) (fun K hK => ?_); rotate_left; (go_simp; first | done | exact rfl); go_simp; refine hK _ ?_; clear hK K
  refine fx_nil ?_
  intro w11 hk9 hΓ
  have HK11 := Lib.hid hk9.keep
  have HFb3 := Lib.hid (hΓ _ (List.mem_cons_of_mem _ List.mem_cons_self))
  have HFb4 := Lib.hid (hΓ _ List.mem_cons_self)
  clear hk9 hΓ
  go_upto_region 10 with (fail)
  have HKB : Hid (Keep nob w w11) := Lib.hid (HK10.out.then_ HK11.out)
  have hZ := HZ.out
  have R3b : ∀ i, scanN s.size (bl s) s.size = some i → Hid (∀ W, Keep nob w W → Calls Tryz.prog 7 #[.string (sdb ++ s)] W fun e w' => Keep nob w w' ∧ ∃ bb, e = .returned (.tuple #[.agg #[.int .i8 0, .int .u64 0, .bool false, .slice none 0 0, .int .u64 0, .int .i8 0, .string ⟨#[]⟩, .slice none 0 0], .iface 61 (.pointer (some ⟨bb, 0, none⟩))])) := by
    intro i hi
    refine Lib.hid (fun W hk' => ?_)
    have h := read_all (sdb ++ s) B sa W (HG.out.keep hk' (fun _ h => h.elim))
    rw [Tdb.out, hi] at h
    refine h.mono fun e w' hp => ?_
    obtain ⟨ev, rfl, h2, bb, rfl, -⟩ := hp
    exact ⟨hk'.then_ h2, bb, rfl⟩
  have R3 : scanN s.size (bl s) s.size = none → Hid (∀ W, Keep nob w W → Calls Tryz.prog 7 #[.string (sdb ++ s)] W fun e w' => Keep nob w w' ∧ ∃ r : Raw, e = .returned (.tuple #[.agg #[.int .i8 5, .int .u64 (r.n : Int), .bool r.neg, .slice r.mA r.mL r.mC, .int .u64 (r.bits : Int), .int .i8 r.ext, .string s, .slice r.kA r.kL r.kC], .nilIface])) := by
    intro hi
    refine Lib.hid (fun W hk' => ?_)
    have h := read_all (sdb ++ s) B sa W (HG.out.keep hk' (fun _ h => h.elim))
    rw [Tdb.out, hi] at h
    refine h.mono fun e w' hp => ?_
    obtain ⟨h2, r, rfl, ht⟩ := hp
    unfold V.tex Tr at ht
    obtain ⟨h4, -, -, -, -, h5, -⟩ := ht
    exact ⟨hk'.then_ h2, r, by simp only [ER, h4, h5]; rfl⟩
  have E45 : scanN s.size (bl s) s.size = none → Hid (∀ W, Keep nob w W → Calls Tryz.prog 12 #[.string (sdb ++ s), .string (sda ++ s)] W fun e w' => e = .returned (.bool true) ∧ Keep nob w w') := fun hi => by
    have h1 := Tdb.out
    have h2 := Tda.out
    rw [hi] at h1 h2
    exact Lib.hid (fun W hk => (same_law _ _ _ _ _ h1 h2 B sa W (HG.out.keep hk (fun _ h => h.elim))).mono fun e w' ⟨h1, h2⟩ => ⟨h1, hk.then_ h2⟩)
  have E55 : scanN s.size (bl s) s.size = none → s.size < 32 → Hid (∀ W, Keep nob w W → Calls Tryz.prog 12 #[.string (sdb ++ s), .string (Bt [160 + s.size] ++ s)] W fun e w' => e = .returned (.bool true) ∧ Keep nob w w') := fun hi h32 => by
    have h1 := Tdb.out
    rw [hi] at h1
    have h2 : readT (Bt [160 + s.size] ++ s) = .ok (V.tex s) (Bt [160 + s.size] ++ s).size := by
      have h3 := text_doc (hd := Bt [160 + s.size]) (r := s) (fun inner => head_short Wd (by omega) (pick_txt s.size h32) s inner)
      rw [hi] at h3
      exact readT_of h3 (by rw [ByteArray.size_append, Bt_size, List.length_singleton]; omega)
    exact Lib.hid (fun W hk => (same_law _ _ _ _ _ h1 h2 B sa W (HG.out.keep hk (fun _ h => h.elim))).mono fun e w' ⟨h1, h2⟩ => ⟨h1, hk.then_ h2⟩)
  have HR3b := Lib.hid R3b
  have HR3 := Lib.hid R3
  have HE45 := Lib.hid E45
  have HE55 := Lib.hid E55
  clear R3b R3 E45 E55
  by_cases h4 : s.size = 4
  · have H4 := Lib.hid h4
    have d4 : ((s.size : Int) == 4) = true := by rw [beq_iff_eq]; omega
    obtain ⟨sc7, HSC7⟩ : ∃ x, Hid (Bt (199 :: beL 1 s.size) = x) := ⟨_, Lib.hid rfl⟩
    have Lc7 : Hid (∀ W, Calls Tryz.prog 11 #[.int .u8 199, .int .i64 1, .int .u64 (s.size : Int)] W fun e w' => e = .returned (.string sc7) ∧ Keep nob W w') := Lib.hid (fun W => by rw [← HSC7.out]; exact wide_ok 199 1 s.size (by decide) (by decide) W)
    have zc7 : sc7.size = 2 := by rw [← HSC7.out, wide_size]
    obtain ⟨sd6, HSD6⟩ : ∃ x, Hid (Bt [214, tb] = x) := ⟨_, Lib.hid rfl⟩
    have zd6 : sd6.size = 2 := by rw [← HSD6.out, Bt_size]; rfl
    have Tc7 : readT (sc7 ++ st ++ s) = .ok (V.xt t s) (sc7 ++ st ++ s).size := by
      have h1 := ext_doc (hd := sc7) (r := s) htb (fun inner => by rw [zc7, ← HSC7.out]; exact head_wide Wd (f := 199) (w := 1) (x := s.size) (n := 0) (fam := .ext) (by decide) rfl (by decide) (by omega) _ inner)
      rw [htt, HST.out] at h1
      exact readT_of h1 (by rw [ByteArray.size_append, ByteArray.size_append]; omega)
    have Td6 : readT (sd6 ++ s) = .ok (V.xt t s) (sd6 ++ s).size := by
      have h1 := ext_doc (hd := Bt [214]) (r := s) htb (fun inner => by rw [h4]; exact head_short Wd (f := 214) (n := 4) (fam := .ext) (by decide) rfl _ inner)
      rw [htt, ← Bt_app, show ([214] ++ [tb] : List Nat) = [214, tb] from rfl, HSD6.out] at h1
      exact readT_of h1 (by rw [ByteArray.size_append]; omega)
    have EL3 : Hid (∀ W, Keep nob w W → Calls Tryz.prog 12 #[.string (sc7 ++ st ++ s), .string (sd6 ++ s)] W fun e w' => e = .returned (.bool true) ∧ Keep nob W w') := Lib.hid (fun W hk => same_law _ _ _ _ _ Tc7 Td6 B sa W (HG.out.keep hk (fun _ h => h.elim)))
    have qc7 : (9223372036854775807 < sc7.size + st.size) = False := eq_false (by omega)
    have qc7' : (9223372036854775807 < sc7.size + st.size + s.size) = False := eq_false (by omega)
    have qd6 : (9223372036854775807 < sd6.size + s.size) = False := eq_false (by omega)
    clear h4 zc7 zd6 Tc7 Td6 hZ
    refine wp_region_fx 21 [.p, .p, .p, .p, .cv (.string sc7), .p, .p, .al, .kv, .p, .p, .p, .p, .p, .al, .kv, .p, .p, .cv (.bool true), .p, .p] [] nob (fun _ => True) (fun _ _ _ _ => trivial) trivial (by kernel_rfl) (by kernel_rfl) (fun h => absurd rfl h) ?_
    simp only [List.take_succ_cons, List.take_zero, List.drop_succ_cons, List.drop_zero]
    refine fx_p ?_ (by rfl) (fun w' => ?_) (fun K hK => ?_); rotate_left; (go_simp; first | done | exact rfl); go_simp; refine hK _ ?_; clear hK K
    refine fx_p ?_ (by rfl) (fun w' => ?_) (fun K hK => ?_); rotate_left; (go_simp; first | done | exact rfl); go_simp; refine hK _ ?_; clear hK K
    refine fx_p ?_ (by rfl) (fun w' => ?_) (fun K hK => ?_); rotate_left; (go_simp; first | done | exact rfl); go_simp; refine hK _ ?_; clear hK K
    refine fx_p ?_ (by rfl) (fun w' => ?_) (fun K hK => ?_); rotate_left; (go_simp; first | done | exact rfl); go_simp; refine hK _ ?_; clear hK K
    refine fx_cv (f := ?_) (args := ?_) (by rfl) (fun w' => ?_) (fun w' hw' ha => ?_) (fun K hK => ?_); rotate_left 2; (go_simp; first | done | (refine And.intro ?_ ?_ <;> exact rfl) | exact rfl); (exact Lc7.out _); go_simp; refine hK _ ?_; clear hK K
    refine fx_p ?_ (by rfl) (fun w' => ?_) (fun K hK => ?_); rotate_left; (go_simp; first | done | exact rfl); go_simp; refine hK _ ?_; clear hK K
    refine fx_p ?_ (by rfl) (fun w' => ?_) (fun K hK => ?_); rotate_left; (go_simp; first | done | exact rfl); go_simp; refine hK _ ?_; clear hK K
    refine fx_new (fun _ h => h.elim) (fun b => .slice (some ⟨b, 0, none⟩) 1 1) ?_ ?_ (by rfl) (fun w' hw' ha => ?_) (fun K hK b5 => ?_); rotate_left 2; (skip; go_simp; first | done | exact rfl); go_simp; refine hK _ _ ?_; clear hK K
    refine fx_kv ?_ (by rfl) (fun w' hw' ha => ?_) (fun K hK => ?_); rotate_left; (have hb := ha _ List.mem_cons_self (by kernel_rfl); have hc := str_new (l := [tb]) hb (B8.cons htb (fun _ h => by simp at h)) (by simp) (by simp); rw [HST.out] at hc; simp only [List.length_singleton] at hc; clear hb; go_simp; first | done | exact rfl); go_simp; refine hK _ ?_; clear hK K
    refine fx_p ?_ (by rfl) (fun w' => ?_) (fun K hK => ?_); rotate_left; (go_simp; first | done | exact rfl); go_simp; refine hK _ ?_; clear hK K
    refine fx_p ?_ (by rfl) (fun w' => ?_) (fun K hK => ?_); rotate_left; (go_simp; first | done | exact rfl); go_simp; refine hK _ ?_; clear hK K
    refine fx_p ?_ (by rfl) (fun w' => ?_) (fun K hK => ?_); rotate_left; (go_simp; first | done | exact rfl); go_simp; refine hK _ ?_; clear hK K
    refine fx_p ?_ (by rfl) (fun w' => ?_) (fun K hK => ?_); rotate_left; (go_simp; first | done | exact rfl); go_simp; refine hK _ ?_; clear hK K
    refine fx_p ?_ (by rfl) (fun w' => ?_) (fun K hK => ?_); rotate_left; (go_simp; first | done | exact rfl); go_simp; refine hK _ ?_; clear hK K
    refine fx_new (fun _ h => h.elim) (fun b => .slice (some ⟨b, 0, none⟩) 2 2) ?_ ?_ (by rfl) (fun w' hw' ha => ?_) (fun K hK b6 => ?_); rotate_left 2; (skip; go_simp; first | done | exact rfl); go_simp; refine hK _ _ ?_; clear hK K
    refine fx_kv ?_ (by rfl) (fun w' hw' ha => ?_) (fun K hK => ?_); rotate_left; (have hb := ha _ List.mem_cons_self (by kernel_rfl); have hc := str_new (l := [214, tb]) hb (B8.cons (by decide) (B8.cons htb (fun _ h => by simp at h))) (by simp) (by simp); rw [HSD6.out] at hc; simp only [List.length_cons, List.length_nil] at hc; clear hb; go_simp; first | done | exact rfl); go_simp; refine hK _ ?_; clear hK K
    refine fx_p ?_ (by rfl) (fun w' => ?_) (fun K hK => ?_); rotate_left; (go_simp; first | done | exact rfl); go_simp; refine hK _ ?_; clear hK K
    refine fx_p ?_ (by rfl) (fun w' => ?_) (fun K hK => ?_); rotate_left; (go_simp; first | done | exact rfl); go_simp; refine hK _ ?_; clear hK K
    refine fx_cv (f := ?_) (args := ?_) (by rfl) (fun w' => ?_) (fun w' hw' ha => ?_) (fun K hK => ?_); rotate_left 2; (go_simp; first | done | (refine And.intro ?_ ?_ <;> exact rfl) | exact rfl); (exact EL3.out _ (HKB.out.then_ hw'.keep)); go_simp; refine hK _ ?_; clear hK K
    refine fx_p ?_ (by rfl) (fun w' => ?_) (fun K hK => ?_); rotate_left; (go_simp; first | done | exact rfl); go_simp; refine hK _ ?_; clear hK K
    refine fx_p ?_ (by rfl) (fun w' => ?_) (fun K hK => ?_); rotate_left; (go_simp; first | done | exact rfl); go_simp; refine hK _ ?_; clear hK K
    refine fx_nil ?_
    intro w12 hk9 hΓ
    have HK12 := Lib.hid hk9.keep
    have HFb5 := Lib.hid (hΓ _ (List.mem_cons_of_mem _ List.mem_cons_self))
    have HFb6 := Lib.hid (hΓ _ List.mem_cons_self)
    clear hk9 hΓ
    have hk12 : Keep nob w w12 := HKB.out.then_ HK12.out
    go_upto_region 12 with (fail)
    have hZ := HZ.out
    cases hsc : scanN s.size (bl s) s.size with
    | some i =>
      have HB := HR3b.out i hsc
      clear hsc
      go_wp2_with (first | (go_at_call 11; (with_reducible refine (Wdb.out _ (by first | assumption | exact Keep.alloc (by assumption) _)).mono ?_); rintro e w2 ⟨rfl, hk2⟩) | (go_at_call 7; (with_reducible refine (HB.out _ (by first | assumption | exact Keep.alloc (by assumption) _)).mono ?_); rintro e w2 ⟨hk2, bb, rfl⟩) | (go_at_call 13; (with_reducible refine (HLI.out _ (by first | assumption | exact Keep.alloc (by assumption) _)).mono ?_); rintro e w2 ⟨rfl, hk2⟩) | (go_at_call 10; (with_reducible refine (HLV.out _ (by first | assumption | exact Keep.alloc (by assumption) _)).mono ?_); rintro e w2 ⟨rfl, hk2⟩))
      go_ret
      exact ⟨rfl, by assumption⟩
    | none =>
      have HO := HR3.out hsc
      have E4 := HE45.out hsc
      by_cases h32 : s.size < 32
      · have dn : decide ((s.size : Int) < 32) = true := by rw [decide_eq_true_iff]; omega
        have dm : decide (s.size < 32) = true := by rw [decide_eq_true_iff]; exact h32
        have E5 := HE55.out hsc h32
        obtain ⟨fa, HFA⟩ : ∃ fa, Hid (160 + s.size = fa) := ⟨_, Lib.hid rfl⟩
        have ja : IntKind.u8.wrap (s.size : Int) = (s.size : Int) := by rw [IntKind.wrap_u8]; omega
        have jb : IntKind.u8.wrap (160 + (s.size : Int)) = (fa : Int) := by rw [IntKind.wrap_u8, ← HFA.out]; omega
        rw [HFA.out] at E5
        obtain ⟨sa0, HSA0⟩ : ∃ x, Hid (Bt [fa] = x) := ⟨_, Lib.hid rfl⟩
        rw [HSA0.out] at E5
        have Wa0 : Hid (∀ W, Keep nob w W → Calls Tryz.prog 11 #[.int .u8 (fa : Int), .int .i64 0, .int .u64 0] W fun e w' => e = .returned (.string sa0) ∧ Keep nob w w') := Lib.hid (fun W hk => by rw [← HSA0.out]; exact (wide_ok fa 0 0 (by have := HFA.out; omega) (by decide) W).mono fun e w' ⟨h1, h2⟩ => ⟨h1, hk.then_ h2⟩)
        have qa0 : (9223372036854775807 < sa0.size + s.size) = False := eq_false (by rw [← HSA0.out, Bt_size, List.length_singleton]; omega)
        clear hsc h32
        go_wp2_with (first | (go_at_call 11; (with_reducible refine (Wdb.out _ (by first | assumption | exact Keep.alloc (by assumption) _)).mono ?_); rintro e w2 ⟨rfl, hk2⟩) | (go_at_call 11; (with_reducible refine (Wda.out _ (by first | assumption | exact Keep.alloc (by assumption) _)).mono ?_); rintro e w2 ⟨rfl, hk2⟩) | (go_at_call 11; (with_reducible refine (Wa0.out _ (by first | assumption | exact Keep.alloc (by assumption) _)).mono ?_); rintro e w2 ⟨rfl, hk2⟩) | (go_at_call 12; (with_reducible refine (E4.out _ (by first | assumption | exact Keep.alloc (by assumption) _)).mono ?_); rintro e w2 ⟨rfl, hk2⟩) | (go_at_call 12; (with_reducible refine (E5.out _ (by first | assumption | exact Keep.alloc (by assumption) _)).mono ?_); rintro e w2 ⟨rfl, hk2⟩) | (go_at_call 7; (with_reducible refine (HO.out _ (by first | assumption | exact Keep.alloc (by assumption) _)).mono ?_); rintro e w2 ⟨hk2, r, rfl⟩) | (go_at_call 13; (with_reducible refine (HLI.out _ (by first | assumption | exact Keep.alloc (by assumption) _)).mono ?_); rintro e w2 ⟨rfl, hk2⟩) | (go_at_call 10; (with_reducible refine (HLV.out _ (by first | assumption | exact Keep.alloc (by assumption) _)).mono ?_); rintro e w2 ⟨rfl, hk2⟩))
        go_ret
        exact ⟨rfl, by assumption⟩
      · have dn : decide ((s.size : Int) < 32) = false := by rw [decide_eq_false_iff_not]; omega
        have dm : decide (s.size < 32) = false := by rw [decide_eq_false_iff_not]; exact h32
        clear hsc h32
        go_wp2_with (first | (go_at_call 11; (with_reducible refine (Wdb.out _ (by first | assumption | exact Keep.alloc (by assumption) _)).mono ?_); rintro e w2 ⟨rfl, hk2⟩) | (go_at_call 11; (with_reducible refine (Wda.out _ (by first | assumption | exact Keep.alloc (by assumption) _)).mono ?_); rintro e w2 ⟨rfl, hk2⟩) | (go_at_call 12; (with_reducible refine (E4.out _ (by first | assumption | exact Keep.alloc (by assumption) _)).mono ?_); rintro e w2 ⟨rfl, hk2⟩) | (go_at_call 7; (with_reducible refine (HO.out _ (by first | assumption | exact Keep.alloc (by assumption) _)).mono ?_); rintro e w2 ⟨hk2, r, rfl⟩) | (go_at_call 13; (with_reducible refine (HLI.out _ (by first | assumption | exact Keep.alloc (by assumption) _)).mono ?_); rintro e w2 ⟨rfl, hk2⟩) | (go_at_call 10; (with_reducible refine (HLV.out _ (by first | assumption | exact Keep.alloc (by assumption) _)).mono ?_); rintro e w2 ⟨rfl, hk2⟩))
        go_ret
        exact ⟨rfl, by assumption⟩
  · have d4 : ((s.size : Int) == 4) = false := by rw [beq_eq_false_iff_ne]; omega
    clear h4 hZ
    refine wp_region_fx 21 [.p, .p, .p, .p, .p, .p, .p, .p, .p, .p, .p, .p, .p, .p, .p, .p, .p, .p, .p, .p, .p] [] nob (fun _ => True) (fun _ _ _ _ => trivial) trivial (by kernel_rfl) (by kernel_rfl) (fun h => absurd rfl h) ?_
    simp only [List.take_succ_cons, List.take_zero, List.drop_succ_cons, List.drop_zero]
    refine fx_p ?_ (by rfl) (fun w' => ?_) (fun K hK => ?_); rotate_left; (go_simp; first | done | exact rfl); go_simp; refine hK _ ?_; clear hK K
    refine fx_p ?_ (by rfl) (fun w' => ?_) (fun K hK => ?_); rotate_left; (go_simp; first | done | exact rfl); go_simp; refine hK _ ?_; clear hK K
    refine fx_p ?_ (by rfl) (fun w' => ?_) (fun K hK => ?_); rotate_left; (go_simp; first | done | exact rfl); go_simp; refine hK _ ?_; clear hK K
    refine fx_skip (by rfl) (fun K hK => ?_); go_simp; refine hK _ ?_; clear hK K
    refine fx_skip (by rfl) (fun K hK => ?_); go_simp; refine hK _ ?_; clear hK K
    refine fx_skip (by rfl) (fun K hK => ?_); go_simp; refine hK _ ?_; clear hK K
    refine fx_skip (by rfl) (fun K hK => ?_); go_simp; refine hK _ ?_; clear hK K
    refine fx_skip (by rfl) (fun K hK => ?_); go_simp; refine hK _ ?_; clear hK K
    refine fx_skip (by rfl) (fun K hK => ?_); go_simp; refine hK _ ?_; clear hK K
    refine fx_skip (by rfl) (fun K hK => ?_); go_simp; refine hK _ ?_; clear hK K
    refine fx_skip (by rfl) (fun K hK => ?_); go_simp; refine hK _ ?_; clear hK K
    refine fx_skip (by rfl) (fun K hK => ?_); go_simp; refine hK _ ?_; clear hK K
    refine fx_skip (by rfl) (fun K hK => ?_); go_simp; refine hK _ ?_; clear hK K
    refine fx_skip (by rfl) (fun K hK => ?_); go_simp; refine hK _ ?_; clear hK K
    refine fx_skip (by rfl) (fun K hK => ?_); go_simp; refine hK _ ?_; clear hK K
    refine fx_skip (by rfl) (fun K hK => ?_); go_simp; refine hK _ ?_; clear hK K
    refine fx_skip (by rfl) (fun K hK => ?_); go_simp; refine hK _ ?_; clear hK K
    refine fx_skip (by rfl) (fun K hK => ?_); go_simp; refine hK _ ?_; clear hK K
    refine fx_skip (by rfl) (fun K hK => ?_); go_simp; refine hK _ ?_; clear hK K
    refine fx_skip (by rfl) (fun K hK => ?_); go_simp; refine hK _ ?_; clear hK K
    refine fx_p ?_ (by rfl) (fun w' => ?_) (fun K hK => ?_); rotate_left; (go_simp; first | done | exact rfl); go_simp; refine hK _ ?_; clear hK K
    refine fx_nil ?_
    intro w12 hk9 hΓ
    have HK12 := Lib.hid hk9.keep
    clear hk9 hΓ
    have hk12 : Keep nob w w12 := HKB.out.then_ HK12.out
    go_upto_region 12 with (fail)
    have hZ := HZ.out
    cases hsc : scanN s.size (bl s) s.size with
    | some i =>
      have HB := HR3b.out i hsc
      clear hsc
      go_wp2_with (first | (go_at_call 11; (with_reducible refine (Wdb.out _ (by first | assumption | exact Keep.alloc (by assumption) _)).mono ?_); rintro e w2 ⟨rfl, hk2⟩) | (go_at_call 7; (with_reducible refine (HB.out _ (by first | assumption | exact Keep.alloc (by assumption) _)).mono ?_); rintro e w2 ⟨hk2, bb, rfl⟩) | (go_at_call 13; (with_reducible refine (HLI.out _ (by first | assumption | exact Keep.alloc (by assumption) _)).mono ?_); rintro e w2 ⟨rfl, hk2⟩) | (go_at_call 10; (with_reducible refine (HLV.out _ (by first | assumption | exact Keep.alloc (by assumption) _)).mono ?_); rintro e w2 ⟨rfl, hk2⟩))
      go_ret
      exact ⟨rfl, by assumption⟩
    | none =>
      have HO := HR3.out hsc
      have E4 := HE45.out hsc
      by_cases h32 : s.size < 32
      · have dn : decide ((s.size : Int) < 32) = true := by rw [decide_eq_true_iff]; omega
        have dm : decide (s.size < 32) = true := by rw [decide_eq_true_iff]; exact h32
        have E5 := HE55.out hsc h32
        obtain ⟨fa, HFA⟩ : ∃ fa, Hid (160 + s.size = fa) := ⟨_, Lib.hid rfl⟩
        have ja : IntKind.u8.wrap (s.size : Int) = (s.size : Int) := by rw [IntKind.wrap_u8]; omega
        have jb : IntKind.u8.wrap (160 + (s.size : Int)) = (fa : Int) := by rw [IntKind.wrap_u8, ← HFA.out]; omega
        rw [HFA.out] at E5
        obtain ⟨sa0, HSA0⟩ : ∃ x, Hid (Bt [fa] = x) := ⟨_, Lib.hid rfl⟩
        rw [HSA0.out] at E5
        have Wa0 : Hid (∀ W, Keep nob w W → Calls Tryz.prog 11 #[.int .u8 (fa : Int), .int .i64 0, .int .u64 0] W fun e w' => e = .returned (.string sa0) ∧ Keep nob w w') := Lib.hid (fun W hk => by rw [← HSA0.out]; exact (wide_ok fa 0 0 (by have := HFA.out; omega) (by decide) W).mono fun e w' ⟨h1, h2⟩ => ⟨h1, hk.then_ h2⟩)
        have qa0 : (9223372036854775807 < sa0.size + s.size) = False := eq_false (by rw [← HSA0.out, Bt_size, List.length_singleton]; omega)
        clear hsc h32
        go_wp2_with (first | (go_at_call 11; (with_reducible refine (Wdb.out _ (by first | assumption | exact Keep.alloc (by assumption) _)).mono ?_); rintro e w2 ⟨rfl, hk2⟩) | (go_at_call 11; (with_reducible refine (Wda.out _ (by first | assumption | exact Keep.alloc (by assumption) _)).mono ?_); rintro e w2 ⟨rfl, hk2⟩) | (go_at_call 11; (with_reducible refine (Wa0.out _ (by first | assumption | exact Keep.alloc (by assumption) _)).mono ?_); rintro e w2 ⟨rfl, hk2⟩) | (go_at_call 12; (with_reducible refine (E4.out _ (by first | assumption | exact Keep.alloc (by assumption) _)).mono ?_); rintro e w2 ⟨rfl, hk2⟩) | (go_at_call 12; (with_reducible refine (E5.out _ (by first | assumption | exact Keep.alloc (by assumption) _)).mono ?_); rintro e w2 ⟨rfl, hk2⟩) | (go_at_call 7; (with_reducible refine (HO.out _ (by first | assumption | exact Keep.alloc (by assumption) _)).mono ?_); rintro e w2 ⟨hk2, r, rfl⟩) | (go_at_call 13; (with_reducible refine (HLI.out _ (by first | assumption | exact Keep.alloc (by assumption) _)).mono ?_); rintro e w2 ⟨rfl, hk2⟩) | (go_at_call 10; (with_reducible refine (HLV.out _ (by first | assumption | exact Keep.alloc (by assumption) _)).mono ?_); rintro e w2 ⟨rfl, hk2⟩))
        go_ret
        exact ⟨rfl, by assumption⟩
      · have dn : decide ((s.size : Int) < 32) = false := by rw [decide_eq_false_iff_not]; omega
        have dm : decide (s.size < 32) = false := by rw [decide_eq_false_iff_not]; exact h32
        clear hsc h32
        go_wp2_with (first | (go_at_call 11; (with_reducible refine (Wdb.out _ (by first | assumption | exact Keep.alloc (by assumption) _)).mono ?_); rintro e w2 ⟨rfl, hk2⟩) | (go_at_call 11; (with_reducible refine (Wda.out _ (by first | assumption | exact Keep.alloc (by assumption) _)).mono ?_); rintro e w2 ⟨rfl, hk2⟩) | (go_at_call 12; (with_reducible refine (E4.out _ (by first | assumption | exact Keep.alloc (by assumption) _)).mono ?_); rintro e w2 ⟨rfl, hk2⟩) | (go_at_call 7; (with_reducible refine (HO.out _ (by first | assumption | exact Keep.alloc (by assumption) _)).mono ?_); rintro e w2 ⟨hk2, r, rfl⟩) | (go_at_call 13; (with_reducible refine (HLI.out _ (by first | assumption | exact Keep.alloc (by assumption) _)).mono ?_); rintro e w2 ⟨rfl, hk2⟩) | (go_at_call 10; (with_reducible refine (HLV.out _ (by first | assumption | exact Keep.alloc (by assumption) _)).mono ?_); rintro e w2 ⟨rfl, hk2⟩))
        go_ret
        exact ⟨rfl, by assumption⟩
end Go.Proofs.YtfpkjmpkhokodaaGreatDoor
