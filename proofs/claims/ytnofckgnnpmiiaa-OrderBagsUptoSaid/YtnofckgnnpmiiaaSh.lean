/- shuffled; plain laws for OrderStands. -/
import Derived.Test.YtnofckgnnpmiiaaNs
import Derived.Test.YtnofckgnnpmiiaaPm
namespace Go.Proofs.Ytnofckgnnpmiiaa
open Go.RowKit Go.Shelf
attribute [local go_sem ↓] Go.wp_at_zero Go.wp_at_succ

set_option maxRecDepth 100000 in
set_option maxHeartbeats 8000000 in
theorem shuffled_ok (A1 A2 : Option Addr) (c1 c2 L : Nat) (xs ys : List Item) (w : World) (hp : xs.Perm ys) (hL : xs.length = L) (h1 : Sl EI w A1 c1 xs) (h2 : Sl EI w A2 c2 ys) (hl : L ≤ 1000000000) :
    Calls Try.prog 44 #[.slice A1 L c1, .slice A2 L c2] w fun e w' => e = .returned (.bool true) ∧ Keep nob w w' := by
  have H1 := Lib.hid h1
  have H2 := Lib.hid h2
  have HL1 := Lib.hid hL
  have HL2 : Hid (ys.length = L) := by unfold Hid; rw [← hp.length_eq, hL]
  have HP := Lib.hid hp
  have hlc1 := h1.le
  rw [hL] at hlc1
  have hcc1 := h1.cap
  have hlc2 := h2.le
  rw [HL2.out] at hlc2
  have hcc2 := h2.cap
  clear h1 h2 hL hp
  have HLL := Lib.hid hl
  go_enter Try.func44, Try.ntmps44
  go_wp2_with (fail)
  go_loopw [5] (fun u5 wr => ∃ i : Nat, i ≤ L ∧ u5 = .int .i64 (i : Int) ∧ Hid (Keep nob w wr)) (fun u5 _ => ((L : Int) - intOf u5).toNat)
  case atStart => exact ⟨0, Nat.zero_le _, rfl, Keep.refl _ w⟩
  case round =>
    obtain ⟨i, hi, rfl, HKr⟩ := hrel
    have hLb : (L : Int) ≤ 1000000000 := by omega
    by_cases hlt : i < L
    · have hi0 : (0 : Int) ≤ (i : Int) := by omega
      have hi1 : (i : Int) < (L : Int) := by omega
      obtain ⟨b1, o1, rfl, hx⟩ := (H1.out.keep HKr.out (nobIn _)).elem (i := i) (by rw [HL1.out]; exact hlt)
      obtain ⟨x, HX⟩ : ∃ x, Hid (xs[i]'(by rw [HL1.out]; exact hlt) = x) := ⟨_, Lib.hid rfl⟩
      rw [HX.out] at hx
      have hx1 := hx 0 _ rfl
      have hx2 := hx 1 _ rfl
      simp only [EI, Nat.add_zero] at hx1 hx2
      have HF : Hid (∀ w', Kept wr w' → w'.cell? ⟨b1, o1 + i * 2, none⟩ = some (.int .i64 x.1) ∧ w'.cell? ⟨b1, o1 + i * 2 + 1, none⟩ = some (.int .i64 x.2)) := fun w' hk => ⟨hk.cell hx1 (fun h => h), hk.cell hx2 (fun h => h)⟩
      obtain ⟨n, HN⟩ : ∃ n, Hid (xs.count x = n) := ⟨_, Lib.hid rfl⟩
      have HT1 : Hid (∀ w', Kept wr w' → Calls Try.prog 75 #[.slice (some ⟨b1, o1, none⟩) L c1, EI.val x] w' fun e w'' => e = .returned (.int .i64 (n : Int)) ∧ Keep nob w' w'') := fun w' hk => by
        have := times_ok (some ⟨b1, o1, none⟩) c1 L xs x w' HL1.out (H1.out.keep (HKr.out.then_ hk) (nobIn _)) HLL.out
        rwa [HN.out] at this
      have HT2 : Hid (∀ w', Kept wr w' → Calls Try.prog 75 #[.slice A2 L c2, EI.val x] w' fun e w'' => e = .returned (.int .i64 (n : Int)) ∧ Keep nob w' w'') := fun w' hk => by
        have := times_ok A2 c2 L ys x w' HL2.out (H2.out.keep (HKr.out.then_ hk) (nobIn _)) HLL.out
        rwa [← HP.out.count_eq, HN.out] at this
      clear hx hx1 hx2 HX
      have tok1 := Lib.hid True.intro
      go_wp2_with (fail)
      refine wp_region_kept (by kernel_rfl) (by kernel_rfl) (QV.out ?_)
      repeat (first
        | (refine kq_skip (by rfl) (fun K hK => ?_); go_simp; refine hK _ ?_; clear hK K)
        | (refine kq_want (by rfl) (fun K hK => ?_); first
            | (refine BigFrame.quiet_move _ rfl ?_; go_simp; refine hK _ ?_; clear hK K)
            | (refine kq_still ?_ (fun w' hw' => ?_) ?_; rotate_left; (obtain ⟨c1', c2'⟩ := HF.out w' hw'; go_simp; first | done | exact rfl); go_simp; refine hK _ ?_; clear hK K)
            | (go_simp; apply Exists.intro; refine ⟨fun w' hw' => ?_, hK _ ?_⟩; (first | (go_at_call_of 75 (Value.slice (some ⟨b1, o1, none⟩) L c1); refine (HT1.out w' hw').mono ?_) | (go_at_call_of 75 (Value.slice A2 L c2); refine (HT2.out w' hw').mono ?_)); rintro e w'' ⟨rfl, hk''⟩; exact ⟨rfl, hw'.then_ hk''⟩; clear hK K)))
      refine ⟨wpQuiet_nil ?_⟩
      intro w2 hk2
      have HK2 : Hid (Keep nob w w2) := HKr.out.then_ hk2
      clear hk2
      go_wp2_with (fail)
      go_roundw
      case rel => exact ⟨i + 1, hlt, by go_num, HK2⟩
      case measure => simp [intOf]; omega
    · have hiL : i = L := by omega
      subst hiL
      go_wp2_with (fail)
      go_ret
      exact ⟨rfl, HKr.out⟩

/-! ### plain -/
section
variable {α : Type} {c : α → α → Int} {κ : α → Int}
theorem Sorts.self {zs : List α} (h : zs.Pairwise (fun a b => κ a ≤ κ b)) : Sorts κ zs zs := ⟨h, fun _ => rfl⟩
theorem Sorts.merge (hk : Keyed c κ) {xs ys s t : List α} (hs : Sorts κ xs s) (ht : Sorts κ ys t) : Sorts κ (xs ++ ys) (mergeL c s t) :=
  ⟨mergeL_up hk s t hs.up ht.up, fun v => by rw [mergeL_filter hk v s t hs.up ht.up, hs.same, ht.same, List.filter_append]⟩
theorem uniqTo_prefix (c : α → α → Int) (xs : List α) : ∀ (d i : Nat), ∃ R, uniqTo c xs (i + d) = uniqTo c xs i ++ R
  | 0, i => ⟨[], by simp⟩
  | d + 1, i => by
    obtain ⟨R, h⟩ := uniqTo_prefix c xs d i
    exact ⟨R ++ if staysB c xs (i + d) then (xs[i + d]?).toList else [], by rw [← Nat.add_assoc, uniqTo, h, List.append_assoc]⟩
theorem uniqTo_at {xs : List α} {i n : Nat} {x : α} (h : staysB c xs i = true) (hx : xs[i]? = some x) (hi : i < n) : (uniqTo c xs n)[(uniqTo c xs i).length]? = some x := by
  obtain ⟨R, hR⟩ := uniqTo_prefix c xs (n - (i + 1)) (i + 1)
  rw [show i + 1 + (n - (i + 1)) = n by omega, uniqTo_stay h hx] at hR
  rw [hR, List.append_assoc, List.getElem?_append_right (Nat.le_refl _), Nat.sub_self]
  rfl
theorem uniqTo_all {xs : List α} : ∀ n, n ≤ xs.length → ((uniqTo c xs n).length = n ↔ ∀ i, i < n → staysB c xs i = true)
  | 0, _ => ⟨fun _ i h => by omega, fun _ => rfl⟩
  | n + 1, hn => by
    have ih := uniqTo_all (xs := xs) n (by omega)
    have hle := uniqTo_le c xs n
    obtain ⟨x, hx⟩ : ∃ x, xs[n]? = some x := ⟨_, List.getElem?_eq_getElem (by omega)⟩
    cases hs : staysB c xs n with
    | true =>
      rw [uniqTo_stay hs hx, List.length_append]
      constructor
      · intro h i hi
        by_cases e : i = n
        · subst e; exact hs
        · exact ih.1 (by simpa using h) i (by omega)
      · intro h
        have := ih.2 (fun i hi => h i (by omega))
        simp [this]
    | false =>
      rw [uniqTo_go hs]
      constructor
      · intro h; omega
      · intro h
        have := h n (by omega)
        rw [hs] at this
        cases this
/-- none is alike an earlier one just if none in order is alike the one ahead of it -/
theorem dup_stays (hk : Keyed c κ) [DecidableEq α] {all u : List α} (hu : Sorts κ all u) {r : α → α → Prop} (hr : all.Pairwise r) (irr : ∀ a, ¬ r a a) (asym : ∀ a b, r a b → ¬ r b a) :
    (∀ j, ¬ dupAt c all j) ↔ ∀ i, i < u.length → staysB c u i = true := by
  have hlex := hu.lex hr
  have hp := hu.perm
  constructor
  · intro h i hi
    rcases i with _ | i
    · rfl
    obtain ⟨y, hy⟩ : ∃ y, u[i]? = some y := ⟨_, List.getElem?_eq_getElem (by omega)⟩
    obtain ⟨x, hx⟩ : ∃ x, u[i + 1]? = some x := ⟨_, List.getElem?_eq_getElem hi⟩
    unfold staysB
    rw [show i + 1 - 1 = i by omega, hy, hx]
    simp only [Nat.add_one_ne_zero, beq_iff_eq, Bool.or_eq_true, bne_iff_ne, ne_eq, false_or]
    intro hc
    obtain ⟨g1, g2⟩ := List.getElem?_eq_some_iff.1 hy
    obtain ⟨g3, g4⟩ := List.getElem?_eq_some_iff.1 hx
    have hl := List.pairwise_iff_getElem.1 hlex i (i + 1) g1 g3 (by omega)
    rw [g2, g4] at hl
    have he : κ y = κ x := (hk.eq y x).1 hc
    have hryx : r y x := by
      rcases hl with h' | ⟨_, h'⟩
      · omega
      · exact h'
    obtain ⟨p, hp1⟩ := List.getElem?_of_mem ((hu.mem y).1 (List.mem_of_getElem? hy))
    obtain ⟨q, hq1⟩ := List.getElem?_of_mem ((hu.mem x).1 (List.mem_of_getElem? hx))
    obtain ⟨p1, p2⟩ := List.getElem?_eq_some_iff.1 hp1
    obtain ⟨q1, q2⟩ := List.getElem?_eq_some_iff.1 hq1
    rcases Nat.lt_trichotomy p q with hpq | hpq | hpq
    · exact h q ⟨p, y, x, hpq, hp1, hq1, hc⟩
    · subst hpq
      rw [hp1] at hq1
      obtain rfl := Option.some.inj hq1
      exact irr _ hryx
    · have := List.pairwise_iff_getElem.1 hr q p q1 p1 hpq
      rw [p2, q2] at this
      exact asym _ _ this hryx
  · rintro h j ⟨i, x, y, hij, hx, hy, hc⟩
    obtain ⟨i1, i2⟩ := List.getElem?_eq_some_iff.1 hx
    obtain ⟨j1, j2⟩ := List.getElem?_eq_some_iff.1 hy
    have hrxy : r x y := by
      have := List.pairwise_iff_getElem.1 hr i j i1 j1 hij
      rwa [i2, j2] at this
    have he : κ x = κ y := (hk.eq x y).1 hc
    obtain ⟨p, hp1⟩ := List.getElem?_of_mem ((hu.mem x).2 (List.mem_of_getElem? hx))
    obtain ⟨q, hq1⟩ := List.getElem?_of_mem ((hu.mem y).2 (List.mem_of_getElem? hy))
    obtain ⟨p1, p2⟩ := List.getElem?_eq_some_iff.1 hp1
    obtain ⟨q1, q2⟩ := List.getElem?_eq_some_iff.1 hq1
    have hpq : p < q := by
      rcases Nat.lt_trichotomy p q with h' | h' | h'
      · exact h'
      · subst h'
        rw [hp1] at hq1
        obtain rfl := Option.some.inj hq1
        exact absurd hrxy (irr _)
      · have := List.pairwise_iff_getElem.1 hlex q p q1 p1 h'
        rw [p2, q2] at this
        rcases this with h'' | ⟨_, h''⟩
        · omega
        · exact absurd h'' (asym _ _ hrxy)
    obtain ⟨t, rfl⟩ : ∃ t, q = t + 1 := ⟨q - 1, by omega⟩
    have hs := h (t + 1) q1
    obtain ⟨z, hz⟩ : ∃ z, u[t]? = some z := ⟨_, List.getElem?_eq_getElem (by omega)⟩
    obtain ⟨z1, z2⟩ := List.getElem?_eq_some_iff.1 hz
    unfold staysB at hs
    rw [show t + 1 - 1 = t by omega, hz, hq1] at hs
    simp only [Nat.add_one_ne_zero, beq_iff_eq, Bool.or_eq_true, bne_iff_ne, ne_eq, false_or] at hs
    apply hs
    rw [hk.eq]
    have h1 : κ x ≤ κ z := by
      by_cases e : p = t
      · subst e
        rw [hp1] at hz
        obtain rfl := Option.some.inj hz
        exact Int.le_refl _
      · have := List.pairwise_iff_getElem.1 hu.up p t p1 z1 (by omega)
        rwa [p2, z2] at this
    have h2 := List.pairwise_iff_getElem.1 hu.up t (t + 1) z1 q1 (by omega)
    rw [z2, q2] at h2
    omega
end
theorem numTo_get (xs : List Item) (f n i : Nat) (h : i < n) : ∃ k : Int, (numTo xs f n)[i]? = some (k, ((f + i : Nat) : Int)) := by
  refine ⟨match xs[i]? with | some x => x.1 | none => 0, ?_⟩
  simp [numTo, h]
  cases xs[i]? <;> rfl
theorem num_pairwise (xs ys : List Item) (n m : Nat) : (numTo xs 0 n ++ numTo ys n m).Pairwise (fun a b => a.2 < b.2) := by
  rw [List.pairwise_iff_getElem]
  intro i j h1 h2 hij
  have key : ∀ k (h : k < (numTo xs 0 n ++ numTo ys n m).length), ((numTo xs 0 n ++ numTo ys n m)[k]).2 = (k : Int) := by
    intro k h
    rw [List.length_append, numTo_len, numTo_len] at h
    by_cases hk : k < n
    · obtain ⟨z, hz⟩ := numTo_get xs 0 n k hk
      have : (numTo xs 0 n ++ numTo ys n m)[k]? = some (z, ((0 + k : Nat) : Int)) := by rw [List.getElem?_append_left (by rw [numTo_len]; exact hk)]; exact hz
      rw [(List.getElem?_eq_some_iff.1 this).2]
      simp
    · obtain ⟨z, hz⟩ := numTo_get ys n m (k - n) (by omega)
      have : (numTo xs 0 n ++ numTo ys n m)[k]? = some (z, ((n + (k - n) : Nat) : Int)) := by rw [List.getElem?_append_right (by rw [numTo_len]; omega), numTo_len]; exact hz
      rw [(List.getElem?_eq_some_iff.1 this).2]
      simp only
      omega
  rw [key i h1, key j h2]
  omega
end Go.Proofs.Ytnofckgnnpmiiaa
