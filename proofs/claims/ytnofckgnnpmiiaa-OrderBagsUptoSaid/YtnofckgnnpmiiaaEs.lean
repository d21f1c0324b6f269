/- What a store of an element leaves of a slice of one's own. -/
import Derived.Test.YtnofckgnnpmiiaaOw
import Derived.Deep.MidRow
namespace Go.Proofs.Ytnofckgnnpmiiaa
open Go.RowKit
section
variable {α : Type} {E : El α} {w : World}
theorem range_put {b o i : Nat} {xs : List α} (hr : w.rangeAt b o (E.flat xs)) (hi : i < xs.length) (ht : w.there b (o + i * E.sz) E.sz) (y : α) :
    (w.setCells b (o + i * E.sz) (E.cells y)).rangeAt b o (E.flat (xs.set i y)) := by
  have hx : xs = xs.take i ++ (xs[i] :: xs.drop (i + 1)) := by simp
  have hs : xs.set i y = xs.take i ++ (y :: xs.drop (i + 1)) := by rw [List.set_eq_take_append_cons_drop, if_pos hi]
  have hl : (xs.take i).length = i := by simp; omega
  rw [hx, E.flat_app, E.flat_cons, range_app, range_app, E.flat_len, hl, E.len] at hr
  rw [hs, E.flat_app, E.flat_cons, range_app, range_app, E.flat_len, hl, E.len]
  refine ⟨World.rangeAt_setCells_apart hr.1 _ _ _ (.inr (.inl ?_)), World.rangeAt_setCells_same _ _ _ _ (by rw [E.len]; exact ht), World.rangeAt_setCells_apart hr.2.2 _ _ _ (.inr (.inr ?_))⟩
  · rw [E.flat_len, hl]; exact Nat.le_refl _
  · rw [E.len]; exact Nat.le_refl _
theorem Ow.put {b o c i : Nat} {xs : List α} (h : Ow E w (some ⟨b, o, none⟩) c xs) (hi : i < xs.length) (y : α) :
    Ow E (w.setCells b (o + i * E.sz) (E.cells y)) (some ⟨b, o, none⟩) c (xs.set i y) := by
  have hle := h.sl.le
  obtain ⟨b', o', e', ht⟩ := h.room (by omega)
  simp only [Option.some.injEq, Addr.mk.injEq, and_true] at e'
  obtain ⟨rfl, rfl⟩ := e'
  have h1 : i * E.sz + E.sz ≤ c * E.sz := by
    rw [← Nat.succ_mul]
    exact Nat.mul_le_mul_right _ (by omega)
  refine ⟨⟨by simpa using h.sl.le, h.sl.cap, fun _ => ⟨b, o, rfl, ?_⟩⟩, fun _ => ⟨b, o, rfl, World.there_setCells ht _ _ _⟩⟩
  obtain ⟨b', o', e', hr⟩ := h.sl.at_ (fun e => by subst e; simp at hi)
  simp only [Option.some.injEq, Addr.mk.injEq, and_true] at e'
  obtain ⟨rfl, rfl⟩ := e'
  exact range_put hr hi (there_sub ht (by omega) (by omega)) y
end
end Go.Proofs.Ytnofckgnnpmiiaa
