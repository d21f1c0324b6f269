/- Clone at the type Item. -/
import Derived.Test.YtnofckgnnpmiiaaOw
import Derived.Test.YtnofckgnnpmiiaaOrd
namespace Go.Proofs.Ytnofckgnnpmiiaa
open Go.RowKit
attribute [local go_sem ↓] Go.wp_at_zero Go.wp_at_succ

set_option maxHeartbeats 400000 in
theorem clone_any (A : Option Addr) (c : Nat) (xs : List Item) (w : World) (h : Sl EI w A c xs) (hl : xs.length ≤ 1000000000) :
    Calls Try.prog 51 #[.slice A xs.length c] w fun e w' => ∃ A' c', e = .returned (.slice A' xs.length c') ∧ Ow EI w' A' c' xs ∧ Keep (fun _ => False) w w' ∧ ∀ a, A' = some a → w.heap.size ≤ a.block ∧ a.block < w'.heap.size := by
  have H := Lib.hid h
  clear h
  have HL := Lib.hid hl
  clear hl
  have he := fun (w : World) (A : Option Addr) (n c : Nat) => Lib.run_eql_slice_nil (P := Try.prog) w 22 27 A n c 0 0 Try.underlying22
  cases A with
  | none =>
    have hx : xs = [] := by
      by_cases hx : xs = []
      · exact hx
      · obtain ⟨b, o, hA, _⟩ := H.out.at_ hx
        exact absurd hA (by simp)
    subst hx
    simp only [List.length_nil]
    clear HL H
    go_enter Try.func51, Try.ntmps51
    go_wp2_with (at_builtin; fail)
    go_ret
    exact ⟨none, 0, rfl, Ow.nil_ _ _ _, Keep.refl _ _, fun a h => by cases h⟩
  | some a =>
    have hb : Hid ((0 + xs.length) * 16 ≤ 140737488355328 ∧ 0 + xs.length ≤ 9223372036854775807) := ⟨by have := HL.out; omega, by have := HL.out; omega⟩
    go_enter Try.func51, Try.ntmps51
    go_wp2_with (at_builtin; refine wpList_append_ow EI rfl _ _ 22 rfl 27 _ 16 Try.underlying22 info27 rfl (some ⟨w.heap.size, 0, none⟩) 0 0 rfl [] rfl (Ow.nil_ _ _ _) (some a) xs.length c rfl xs rfl (H.out.below ((Below.refl _ _).alloc (Nat.le_refl _) _)) hb.out.1 hb.out.2 ?_; intro A' c' w' hap; have HAP := Lib.hid hap; clear hap)
    go_ret
    refine ⟨A', c', rfl, HAP.out.ow, ?_, fun a ha => ?_⟩
    · exact ((Keep.refl (fun k => k = w.heap.size) w).alloc _).then_ (HAP.out.keep.mono (fun k _ hk => by obtain ⟨a, ha, rfl⟩ := hk; simp at ha; rw [← ha])) |>.mono (fun k hk e => by omega)
    · have hs := HAP.out.keep.size
      simp only [World.size_alloc] at hs
      rcases HAP.out.lies a ha with ⟨a0, h0, h1⟩ | ⟨h1, h2⟩
      · simp at h0; rw [← h1, ← h0]; exact ⟨Nat.le_refl _, by simp only; omega⟩
      · rw [h1]; simp only [World.size_alloc] at h2 ⊢; exact ⟨by omega, h2⟩
end Go.Proofs.Ytnofckgnnpmiiaa
