/- Merge of lists of which one is empty; Merge by an order, of any two lists. -/
import Derived.Test.YtnofckgnnpmiiaaRu
namespace Go.Proofs.Ytnofckgnnpmiiaa
open Go.RowKit Go.Shelf
attribute [local go_sem ↓] Go.wp_at_zero Go.wp_at_succ

theorem Ow.keep3 {α : Type} {E : El α} {w w1 : World} {A : Option Addr} {c : Nat} {xs : List α} {S : Nat → Prop} (h : Sl E w A c xs) (k : Keep S w w1) (hs : xs ≠ [] → ¬ InB S A) : Sl E w1 A c xs :=
  ⟨h.le, h.cap, fun hx => let ⟨b, o, hA, hr⟩ := h.at_ hx; ⟨b, o, hA, k.range hr (fun hb => hs hx ⟨_, hA, hb⟩)⟩⟩
theorem mergeL_empty {α : Type} (c : α → α → Int) (xs ys : List α) (h : xs = [] ∨ ys = []) : mergeL c xs ys = xs ++ ys := by
  rcases h with rfl | rfl
  · simp [mergeL]
  · rw [mergeL_nil, List.append_nil]

set_option maxRecDepth 100000 in
set_option maxHeartbeats 8000000 in
theorem merge_e (A1 A2 : Option Addr) (c1 c2 tb tc : Nat) (f : Value) (xs ys : List Item) (w : World) (hE : xs = [] ∨ ys = []) (h1 : Sl EI w A1 c1 xs) (h2 : Sl EI w A2 c2 ys) (hn : ∀ a, A2 = some a → ys ≠ [] → a.block ≠ tb)
   (ho : Ow EI w (some ⟨tb, 0, none⟩) tc ([] : List Item)) (htc : xs.length + ys.length ≤ tc) (_hl : xs.length + ys.length ≤ 1000000000) :
    Calls Try.prog 53 #[.slice (some ⟨tb, 0, none⟩) 0 tc, .slice A1 xs.length c1, .slice A2 ys.length c2, f] w fun e w' =>
      e = .returned (.slice (some ⟨tb, 0, none⟩) (xs.length + ys.length) tc) ∧ Ow EI w' (some ⟨tb, 0, none⟩) tc (xs ++ ys) ∧ Keep (fun k => k = tb) w w' := by
  have H1 := Lib.hid h1
  have hle1 := h1.le
  have hle2 := h2.le
  have hca1 := h1.cap
  have hca2 := h2.cap
  have HO := Lib.hid ho
  have hcap := ho.sl.cap
  have HA1 : Hid (Ow EI (w.setCells tb (0 + 0 * EI.sz) (EI.flat xs)) (some ⟨tb, 0, none⟩) tc xs) := by
    have := ho.app (ys := xs) (by simp; omega)
    simp only [List.length_nil, List.nil_append] at this
    exact this
  have HK1 : Hid (Keep (fun k => k = tb) w (w.setCells tb (0 + 0 * EI.sz) (EI.flat xs))) := (Keep.refl (fun k => k = tb) w).setCells _ _ (fun _ => rfl)
  have HS2 : Hid (Sl EI (w.setCells tb (0 + 0 * EI.sz) (EI.flat xs)) A2 c2 ys) := Ow.keep3 h2 HK1.out (fun hne ⟨a, ha, hb⟩ => hn a ha hne hb)
  have HT : Hid (∀ (zs : List Item) (w' : World) (k m : Nat), Ow EI w' (some ⟨tb, 0, none⟩) tc zs → k + m ≤ tc → w'.there tb (0 + k * EI.sz) (m * EI.sz)) := fun zs w' k m ho hkm => by
    by_cases h0 : 0 < tc
    · obtain ⟨b', o', e', hth⟩ := ho.room h0
      simp only [Option.some.injEq, Addr.mk.injEq, and_true] at e'
      obtain ⟨rfl, rfl⟩ := e'
      exact there_sub hth (by omega) (by rw [Nat.add_assoc, ← Nat.add_mul]; exact Nat.add_le_add_left (Nat.mul_le_mul_right _ hkm) _)
    · rw [show m = 0 by omega, Nat.zero_mul]
      exact fun j hj => by omega
  have HT1 : Hid (w.there tb (0 + 0 * EI.sz) (xs.length * EI.sz)) := HT.out [] w 0 xs.length HO.out (by omega)
  have HT2 : Hid ((w.setCells tb (0 + 0 * EI.sz) (EI.flat xs)).there tb (0 + xs.length * EI.sz) (ys.length * EI.sz)) := HT.out xs _ xs.length ys.length HA1.out htc
  have hor : xs.length = 0 ∨ ys.length = 0 := by
    rcases hE with h | h
    · exact .inl (by rw [h]; rfl)
    · exact .inr (by rw [h]; rfl)
  obtain ⟨n1, HN1⟩ : ∃ n, Hid (xs.length = n) := ⟨_, Lib.hid rfl⟩
  obtain ⟨n2, HN2⟩ : ∃ n, Hid (ys.length = n) := ⟨_, Lib.hid rfl⟩
  rw [HN1.out] at hle1 htc _hl hor HT1 HT2 ⊢
  rw [HN2.out] at hle2 htc _hl hor HT2 ⊢
  have hl1 : 0 + n1 ≤ tc := by omega
  clear h1 h2 hn ho hE HT
  go_enter Try.func53, Try.ntmps53
  go_wp2_with (fail)
  go_loopw [0, 1, 2] (fun u0 u1 u2 wr => u0 = .slice (some ⟨tb, 0, none⟩) 0 tc ∧ u1 = .slice A1 n1 c1 ∧ u2 = .slice A2 n2 c2 ∧ Hid (wr = w)) (fun _ _ _ _ => 0)
  case atStart => exact ⟨rfl, rfl, rfl, rfl⟩
  case round =>
    obtain ⟨rfl, rfl, rfl, hw⟩ := hrel
    have hw' := hw.out
    subst hw'
    rcases Nat.eq_zero_or_pos n1 with h0 | h0
    · have h1 : ¬ (0 < n1) := by omega
      have h1d : decide (0 < n1) = false := decide_eq_false h1
      clear h0 hor
      have tok1 := Lib.hid True.intro
      go_wp2_with (first
        | (at_builtin; have _t := tok1; refine wpList_append_E EI rfl _ _ 22 rfl 27 Try.underlying22 (by kernel_rfl) tb 0 0 tc rfl A1 n1 c1 rfl xs HN1.out H1.out hl1 HT1.out ?_; intro w1 hw1; have HW1 := Lib.hid hw1; clear hw1 _t tok1)
        | (at_builtin; refine wpList_append_E EI rfl _ _ 22 rfl 27 Try.underlying22 (by kernel_rfl) tb 0 n1 tc rfl A2 n2 c2 rfl ys HN2.out (by rw [HW1.out]; exact HS2.out) htc (by rw [HW1.out]; exact HT2.out) ?_; intro w2 hw2; have HW2 := Lib.hid hw2; clear hw2))
      go_ret
      have hz : w2 = (wr.setCells tb (0 + 0 * EI.sz) (EI.flat xs)).setCells tb (0 + n1 * EI.sz) (EI.flat ys) := by rw [HW2.out, HW1.out]
      refine ⟨rfl, ?_, ?_⟩
      · rw [hz]
        have := HA1.out.app (ys := ys) (by rw [HN1.out, HN2.out]; exact htc)
        rwa [HN1.out] at this
      · rw [hz]
        exact HK1.out.setCells _ _ (fun _ => rfl)
    · have h1 : ¬ (0 < n2) := by omega
      have h1d : decide (0 < n2) = false := decide_eq_false h1
      have h1e : decide (0 < n1) = true := decide_eq_true h0
      clear hor
      have tok1 := Lib.hid True.intro
      go_wp2_with (first
        | (at_builtin; have _t := tok1; refine wpList_append_E EI rfl _ _ 22 rfl 27 Try.underlying22 (by kernel_rfl) tb 0 0 tc rfl A1 n1 c1 rfl xs HN1.out H1.out hl1 HT1.out ?_; intro w1 hw1; have HW1 := Lib.hid hw1; clear hw1 _t tok1)
        | (at_builtin; refine wpList_append_E EI rfl _ _ 22 rfl 27 Try.underlying22 (by kernel_rfl) tb 0 n1 tc rfl A2 n2 c2 rfl ys HN2.out (by rw [HW1.out]; exact HS2.out) htc (by rw [HW1.out]; exact HT2.out) ?_; intro w2 hw2; have HW2 := Lib.hid hw2; clear hw2))
      go_ret
      have hz : w2 = (wr.setCells tb (0 + 0 * EI.sz) (EI.flat xs)).setCells tb (0 + n1 * EI.sz) (EI.flat ys) := by rw [HW2.out, HW1.out]
      refine ⟨rfl, ?_, ?_⟩
      · rw [hz]
        have := HA1.out.app (ys := ys) (by rw [HN1.out, HN2.out]; exact htc)
        rwa [HN1.out] at this
      · rw [hz]
        exact HK1.out.setCells _ _ (fun _ => rfl)
end Go.Proofs.Ytnofckgnnpmiiaa
