/- A bag under the counting order: Len, Add, Take and the count. -/
import Derived.Test.YtnofckgnnpmiiaaCt
import Derived.Test.YtnofckgnnpmiiaaTk
import Derived.Test.YtnofckgnnpmiiaaAd
namespace Go.Proofs.Ytnofckgnnpmiiaa
open Go.RowKit Go.Shelf

def cntF (bc : Nat) : Value := .func (.func 50) #[.pointer (some ⟨bc, 0, none⟩)] #[]
theorem wrap_nought : RowKit.wrap64 ((0 : Nat) : Int) = 0 := IntWalk.wrap64_in _ ⟨by decide, by decide⟩
theorem Cnt.read {o : Int} {b q : Nat} {w : World} (h : Cnt o b (0 + q) w) (hq : (q : Int) ≤ 9223372036854775807) : w.cell? ⟨b, 1, none⟩ = some (.int .i64 (q : Int)) := by
  have e := h.cnt
  rw [Nat.zero_add] at e
  rw [e]
  have : RowKit.wrap64 (q : Int) = (q : Int) := IntWalk.wrap64_in _ ⟨by omega, by omega⟩
  rw [this]
theorem Cnt.fz {o : Int} {b n : Nat} {w : World} (h : Cnt o b n w) : w.frozen? ⟨b, 1, none⟩ = false := (h.th 1 (by decide)).2
theorem Cnt.reset {o : Int} {b n : Nat} {w : World} (h : Cnt o b n w) : Cnt o b 0 (w.setCell ⟨b, 1, none⟩ (.int .i64 0)) := by
  refine ⟨?_, ?_, World.there_setCells (vs := [_]) h.th _ _⟩
  · rw [World.cell?_setCell_other _ _ _ _ (fun e => by simp at e)]
    exact h.ord
  · rw [wrap_nought]
    exact World.cell?_setCell_same _ _ _ h.cnt
theorem count_cmp (o : Int) (bc : Nat) : CmpOk Try.prog EI (cntF bc) (cmpR o) (bc + 1) (fun k => k = bc) (Cnt o bc) :=
  ⟨⟨50, #[.pointer (some ⟨bc, 0, none⟩)], #[], rfl, fun args w => enters_of Try.func50 (by kernel_rfl) rfl args w, fun n w x y h => count_ok o bc n x y w h⟩, fun n w w' h k => h.below (Nat.lt_succ_self _) k, fun k (h : k = bc) => by omega⟩
theorem takeL_len (c : Item → Item → Int) (hs : List (Held Item)) : (takeL c hs).length = hs.length - 1 := by
  unfold takeL
  split
  · rw [downL_len]; simp
  · rename_i h
    rw [List.getElem?_eq_none_iff] at h
    simp only [List.length_nil]
    omega

/-- a bag of i elements in block bb, under the counter in block bc, that was asked n times -/
def CB (o : Int) (bc bb i m n : Nat) (w3 w : World) : Prop :=
  ∃ A c hs, Bg w bb (cntF bc) A c hs m ∧ hs.length = i ∧ (∀ a, A = some a → bc + 1 ≤ a.block) ∧ Cnt o bc n w ∧ Keep (fun k => bc ≤ k) w3 w ∧ bc + 1 ≤ bb ∧ bc + 1 ≤ w.heap.size

theorem CB.reset {o : Int} {bc bb i m n : Nat} {w3 w : World} (h : CB o bc bb i m n w3 w) : CB o bc bb i m 0 w3 (w.setCell ⟨bc, 1, none⟩ (.int .i64 0)) := by
  obtain ⟨A, c, hs, h1, h2, h3, h4, h5, h6, h7⟩ := h
  have k : Keep (fun k => k = bc) w (w.setCell ⟨bc, 1, none⟩ (.int .i64 0)) := (Keep.refl (fun k => k = bc) w).setCell (fun _ => rfl) _
  exact ⟨A, c, hs, h1.keep k (by show ¬ bb = bc; omega) (fun ⟨a, ha, e⟩ => by have := h3 a ha; have e' : a.block = bc := e; omega), h2, h3, h4.reset, h5.then_ (k.mono (fun j _ (e : j = bc) => by show bc ≤ j; omega)), h6, Nat.le_trans h7 k.size⟩

theorem CB.len {o : Int} {bc bb i m n : Nat} {w3 w : World} (h : CB o bc bb i m n w3 w) : Calls Try.prog 38 #[.pointer (some ⟨bb, 0, none⟩)] w (fun e w' => e = .returned (.int .i64 (i : Int)) ∧ w' = w) := by
  obtain ⟨A, c, hs, h1, h2, _⟩ := h
  have := len_ok h1
  rw [h2] at this
  exact this

theorem CB.add {o : Int} {bc bb i m : Nat} {w3 w : World} (h : CB o bc bb i m 0 w3 w) (x : Item) (hi : i + 1 ≤ 1000000000) (hm : m + 1 ≤ 1000000000) :
    Calls Try.prog 40 #[.pointer (some ⟨bb, 0, none⟩), .slice (some ⟨w.heap.size, 0, none⟩) 1 1] (w.alloc (.cells #[.int .i64 x.1, .int .i64 x.2] 27))
      (fun e w' => e = .returned (.tuple #[]) ∧ ∃ q, q ≤ dig (i + 1) ∧ CB o bc bb (i + 1) (m + 1) (0 + q) w3 w') := by
  obtain ⟨A, c, hs, h1, h2, h3, h4, h5, h6, h7⟩ := h
  have k0 : Keep (fun _ => False) w (w.alloc (.cells #[.int .i64 x.1, .int .i64 x.2] 27)) := (Keep.refl _ w).alloc _
  have hb : bb < w.heap.size := World.block_lt_of_cell? w _ h1.cmp
  have hd := lt_two_dig (i + 1)
  refine (add_ok (count_cmp o bc) bb 0 m (dig (i + 1)) A (some ⟨w.heap.size, 0, none⟩) c 1 hs [x] (w.alloc (.cells #[.int .i64 x.1, .int .i64 x.2] 27)) (Nat.le_trans h7 k0.size) (h1.keep k0 (fun h => h) (fun ⟨_, _, h⟩ => h)) h6 h3
    ⟨Nat.le_refl _, by decide, fun _ => ⟨_, _, rfl, range_alloc_new w _ _ _ (fun j v hv => by simpa [El.flat, EI] using hv)⟩⟩
    (fun a ha hk => ?_) ⟨k0.cell h4.ord (fun h => h), k0.cell h4.cnt (fun h => h), k0.there h4.th (fun h => h)⟩ (by simp only [List.length_singleton]; omega) (by simp only [List.length_singleton]; omega) (by simp only [List.length_singleton]; omega)).mono ?_
  · obtain rfl := Option.some.inj ha
    rcases hk with hk | hk | ⟨a, ha, e⟩
    · have : w.heap.size = bc := hk
      omega
    · have : w.heap.size = bb := hk
      omega
    · have := h1.old a ha
      have : a.block = w.heap.size := e
      omega
  · rintro e w' ⟨he, A', c', g1, g2, g3, q, g4, g5⟩
    refine ⟨he, q, by simpa using g4, A', c', _, g1, by rw [addL_len, h2]; rfl, fun a ha => ?_, g5, ?_, h6, Nat.le_trans h7 (Nat.le_trans k0.size g3.size)⟩
    · rcases g2 a ha with ⟨a0, ha0, e⟩ | e
      · rw [← e]; exact h3 a0 ha0
      · have := k0.size
        omega
    · refine (h5.then_ (k0.mono (fun _ _ h => h.elim))).then_ (g3.mono (fun j _ hj => ?_))
      rcases hj with hj | hj | ⟨a, ha, e⟩
      · have : j = bc := hj
        show bc ≤ j
        omega
      · show bc ≤ j
        omega
      · have := h3 a ha
        show bc ≤ j
        omega

theorem CB.take {o : Int} {bc bb i m : Nat} {w3 w : World} (h : CB o bc bb (i + 1) m 0 w3 w) (hi : i + 1 ≤ 1000000000) :
    Calls Try.prog 41 #[.pointer (some ⟨bb, 0, none⟩)] w (fun e w' => (∃ x : Item, e = .returned (.tuple #[.agg #[.int .i64 x.1, .int .i64 x.2], .bool true])) ∧ ∃ q, q ≤ 2 * dig (i + 1) ∧ CB o bc bb i m (0 + q) w3 w') := by
  obtain ⟨A, c, hs, h1, h2, h3, h4, h5, h6, h7⟩ := h
  have hd := lt_two_dig (i + 1)
  refine (take_ok (count_cmp o bc) bb 0 m (dig (i + 1)) A c hs w h7 h1 h6 h3 (by omega) h4 (by omega) (by omega)).mono ?_
  rintro e w' ⟨⟨h0, hr, e0, he⟩, g1, g3, q, g4, g5⟩
  refine ⟨⟨h0.1, he⟩, q, g4, A, c, _, g1, by rw [takeL_len, h2]; rfl, h3, g5, ?_, h6, Nat.le_trans h7 g3.size⟩
  refine h5.then_ (g3.mono (fun j _ hj => ?_))
  rcases hj with hj | hj | ⟨a, ha, e⟩
  · have : j = bc := hj
    show bc ≤ j
    omega
  · show bc ≤ j
    omega
  · have := h3 a ha
    show bc ≤ j
    omega

theorem CB.keep {o : Int} {bc bb i m n : Nat} {w3 w w' : World} (h : CB o bc bb i m n w3 w) (k : Keep (fun _ => False) w w') : CB o bc bb i m n w3 w' := by
  obtain ⟨A, c, hs, h1, h2, h3, h4, h5, h6, h7⟩ := h
  exact ⟨A, c, hs, h1.keep k (fun h => h) (fun ⟨_, _, h⟩ => h), h2, h3, ⟨k.cell h4.ord (fun h => h), k.cell h4.cnt (fun h => h), k.there h4.th (fun h => h)⟩, h5.then_ (k.mono (fun _ _ h => h.elim)), h6, Nat.le_trans h7 k.size⟩
theorem CB.cnt {o : Int} {bc bb i m n : Nat} {w3 w : World} (h : CB o bc bb i m n w3 w) : Cnt o bc n w := by
  obtain ⟨A, c, hs, h1, h2, h3, h4, h5, h6, h7⟩ := h
  exact h4
theorem CB.kept {o : Int} {bc bb i m n : Nat} {w3 w : World} (h : CB o bc bb i m n w3 w) : Keep (fun k => bc ≤ k) w3 w := by
  obtain ⟨A, c, hs, h1, h2, h3, h4, h5, h6, h7⟩ := h
  exact h5
/-- the length that the bag in block b bears -/
def lenAt (b : Nat) (w : World) : Nat := match w.cell? ⟨b, 1, none⟩ with
  | some (.slice _ n _) => n
  | _ => 0
theorem CB.lenAt {o : Int} {bc bb i m n : Nat} {w3 w : World} (h : CB o bc bb i m n w3 w) : lenAt bb w = i := by
  obtain ⟨A, c, hs, h1, h2, h3, h4, h5, h6, h7⟩ := h
  unfold Ytnofckgnnpmiiaa.lenAt
  rw [h1.heap]
  exact h2
end Go.Proofs.Ytnofckgnnpmiiaa
