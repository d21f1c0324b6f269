/- The heap law: Add and Take keep the heap, the top is the least, and what is taken comes in order. Plain Lean. -/
import Derived.Test.YtnofckgnnpmiiaaHp
import Derived.Test.YtnofckgnnpmiiaaPl
namespace Go.Proofs.Ytnofckgnnpmiiaa

/-- y does not go ahead of x -/
def leH (c : Item → Item → Int) (x y : Held Item) : Prop := aheadB c y x = false

section
variable {c : Item → Item → Int} {κ : Item → Int}

theorem aheadB_iff (hk : Keyed c κ) (x y : Held Item) : aheadB c x y = true ↔ κ x.1 < κ y.1 ∨ (κ x.1 = κ y.1 ∧ x.2 < y.2) := by
  unfold aheadB
  rw [Bool.or_eq_true, Bool.and_eq_true, decide_eq_true_iff, decide_eq_true_iff, beq_iff_eq, hk.lt, hk.eq]
theorem leH_iff (hk : Keyed c κ) (x y : Held Item) : leH c x y ↔ κ x.1 < κ y.1 ∨ (κ x.1 = κ y.1 ∧ x.2 ≤ y.2) := by
  unfold leH
  rw [← Bool.not_eq_true, aheadB_iff hk]
  omega
theorem leH.trans (hk : Keyed c κ) {x y z : Held Item} (h : leH c x y) (k : leH c y z) : leH c x z := by
  rw [leH_iff hk] at h k ⊢
  omega
theorem leH.refl (hk : Keyed c κ) (x : Held Item) : leH c x x := by
  rw [leH_iff hk]
  omega
theorem leH.of_ahead (hk : Keyed c κ) {x y : Held Item} (h : aheadB c x y = true) : leH c x y := by
  rw [aheadB_iff hk] at h
  rw [leH_iff hk]
  omega

/-- a list that is a heap -/
def IsHeap (c : Item → Item → Int) (hs : List (Held Item)) : Prop :=
  ∀ j x y, 0 < j → hs[j]? = some x → hs[(j - 1) / 2]? = some y → leH c y x

theorem IsHeap.top (hk : Keyed c κ) {hs : List (Held Item)} (h : IsHeap c hs) {t : Held Item} (ht : hs[0]? = some t) : ∀ (i : Nat) (x : Held Item), hs[i]? = some x → leH c t x := by
  intro i
  induction i using Nat.strongRecOn with
  | _ i ih =>
    intro x hx
    by_cases h0 : i = 0
    · subst h0
      rw [ht] at hx
      obtain rfl := Option.some.inj hx
      exact leH.refl hk _
    · have hl := (List.getElem?_eq_some_iff.1 hx).1
      have hp : hs[(i - 1) / 2]? = some (hs[(i - 1) / 2]'(by omega)) := List.getElem?_eq_getElem _
      exact (ih _ (by omega) _ hp).trans hk (h i _ _ (by omega) hx hp)

/-- two elements change places -/
theorem swap_perm {hs : List (Held Item)} {i j : Nat} {x y : Held Item} (hx : hs[i]? = some x) (hy : hs[j]? = some y) : ((hs.set i y).set j x).Perm hs := by
  obtain ⟨h1, rfl⟩ := List.getElem?_eq_some_iff.1 hx
  obtain ⟨h2, rfl⟩ := List.getElem?_eq_some_iff.1 hy
  exact List.set_set_perm h1 h2
theorem swap_get {hs : List (Held Item)} {i j k : Nat} {x y z : Held Item} (hx : hs[i]? = some x) (hy : hs[j]? = some y) (h : ((hs.set i y).set j x)[k]? = some z) :
    (k = j ∧ z = x) ∨ (k ≠ j ∧ k = i ∧ z = y) ∨ (k ≠ j ∧ k ≠ i ∧ hs[k]? = some z) := by
  have h1 := (List.getElem?_eq_some_iff.1 hx).1
  have h2 := (List.getElem?_eq_some_iff.1 hy).1
  rw [List.getElem?_set, List.getElem?_set, List.length_set] at h
  by_cases e1 : j = k
  · rw [if_pos e1, if_pos h2] at h
    exact .inl ⟨e1.symm, (Option.some.inj h).symm⟩
  · rw [if_neg e1] at h
    by_cases e2 : i = k
    · rw [if_pos e2, if_pos h1] at h
      exact .inr (.inl ⟨fun e => e1 e.symm, e2.symm, (Option.some.inj h).symm⟩)
    · rw [if_neg e2] at h
      exact .inr (.inr ⟨fun e => e1 e.symm, fun e => e2 e.symm, h⟩)

theorem up_perm (f : Nat) : ∀ (i : Nat) (hs : List (Held Item)), (upL c f hs i).Perm hs := by
  induction f with
  | zero => intro i hs; exact .refl _
  | succ f ih =>
    intro i hs
    rw [upL]
    split
    · exact .refl _
    · split
      · rename_i x y hx hy
        split
        · exact (ih _ _).trans (swap_perm hx hy)
        · exact .refl _
      · exact .refl _

theorem up_heap (hk : Keyed c κ) : ∀ (i : Nat) (hs : List (Held Item)), i < hs.length →
    (∀ j x y, 0 < j → j ≠ i → hs[j]? = some x → hs[(j - 1) / 2]? = some y → leH c y x) →
    (∀ j x y, 0 < i → 0 < j → (j - 1) / 2 = i → hs[j]? = some x → hs[(i - 1) / 2]? = some y → leH c y x) → IsHeap c (upL c i hs i) := by
  intro i
  induction i using Nat.strongRecOn with
  | _ i ih =>
    intro hs hl hA hB
    by_cases h0 : i = 0
    · subst h0
      rw [upL_zero]
      intro j x y hj hx hy
      exact hA j x y hj (by omega) hx hy
    · have hp : (i - 1) / 2 < i := by omega
      have hx : hs[i]? = some hs[i] := List.getElem?_eq_getElem _
      have hy : hs[(i - 1) / 2]? = some (hs[(i - 1) / 2]'(by omega)) := List.getElem?_eq_getElem _
      generalize hs[i] = x at hx
      generalize hs[(i - 1) / 2]'(by omega) = y at hy
      by_cases ha : aheadB c x y = true
      · rw [upL_go (by omega) hx hy ha]
        have hxy := leH.of_ahead hk ha
        refine ih _ hp _ (by simp only [List.length_set]; omega) ?_ ?_
        · intro j u v hj hne hu hv
          rcases swap_get hx hy hu with ⟨e, _⟩ | ⟨_, e, rfl⟩ | ⟨n1, n2, hu'⟩
          · exact absurd e hne
          · subst e
            rcases swap_get hx hy hv with ⟨_, rfl⟩ | ⟨e, _, _⟩ | ⟨e, _, _⟩
            · exact hxy
            · exact absurd rfl e
            · exact absurd rfl e
          · rcases swap_get hx hy hv with ⟨e, rfl⟩ | ⟨_, e, rfl⟩ | ⟨_, _, hv'⟩
            · exact hxy.trans hk (hA j u y hj n2 hu' (by rw [e]; exact hy))
            · exact hB j u v (by omega) hj e hu' hy
            · exact hA j u v hj n2 hu' hv'
        · intro j u v hpi hj he hu hv
          have hv' : hs[((i - 1) / 2 - 1) / 2]? = some v := by
            rcases swap_get hx hy hv with ⟨e, _⟩ | ⟨_, e, _⟩ | ⟨_, _, h⟩
            · omega
            · omega
            · exact h
          have hvy : leH c v y := hA _ _ _ hpi (by omega) hy hv'
          rcases swap_get hx hy hu with ⟨e, _⟩ | ⟨_, e, rfl⟩ | ⟨n1, n2, hu'⟩
          · omega
          · exact hvy
          · exact hvy.trans hk (hA j u y hj n2 hu' (by rw [he]; exact hy))
      · have ha' : aheadB c x y = false := by simpa using ha
        rw [upL_stay (by omega) hx hy ha']
        intro j u v hj hu hv
        by_cases hji : j = i
        · subst hji
          rw [hx] at hu
          rw [hy] at hv
          obtain rfl := Option.some.inj hu
          obtain rfl := Option.some.inj hv
          exact ha'
        · exact hA j u v hj hji hu hv

theorem addOne_perm (hs : List (Held Item)) (m : Int) (x : Item) : (addOne c hs m x).Perm (hs ++ [(x, m)]) := up_perm _ _ _
theorem addOne_heap (hk : Keyed c κ) {hs : List (Held Item)} (h : IsHeap c hs) (m : Int) (x : Item) : IsHeap c (addOne c hs m x) := by
  refine up_heap hk _ _ (by simp) ?_ ?_
  · intro j u v hj hne hu hv
    have hl := (List.getElem?_eq_some_iff.1 hu).1
    rw [List.length_append, List.length_singleton] at hl
    rw [List.getElem?_append_left (by omega)] at hu hv
    exact h j u v hj hu hv
  · intro j u v _ hj he hu _
    have hl := (List.getElem?_eq_some_iff.1 hu).1
    rw [List.length_append, List.length_singleton] at hl
    omega
theorem addL_heap (hk : Keyed c κ) : ∀ (xs : List Item) (hs : List (Held Item)) (m : Int), IsHeap c hs → IsHeap c (addL c hs m xs)
  | [], _, _, h => h
  | x :: xs, _, m, h => addL_heap hk xs _ _ (addOne_heap hk h m x)
/-- xs with the numbers from m on -/
def heldFrom (m : Int) : List Item → List (Held Item)
  | [] => []
  | x :: xs => (x, m) :: heldFrom (m + 1) xs
theorem addL_perm : ∀ (xs : List Item) (hs : List (Held Item)) (m : Int), (addL c hs m xs).Perm (hs ++ heldFrom m xs)
  | [], hs, m => by simp [addL, heldFrom]
  | x :: xs, hs, m => by
    rw [addL, heldFrom]
    refine (addL_perm xs _ _).trans ?_
    refine ((addOne_perm hs m x).append_right _).trans ?_
    rw [List.append_assoc]
    exact .refl _
theorem IsHeap.nil : IsHeap c [] := fun j x y _ h => by simp at h

/-! ### down -/
theorem down_perm (f : Nat) : ∀ (i : Nat) (hs : List (Held Item)), (downL c f hs i).Perm hs := by
  induction f with
  | zero => intro i hs; exact .refl _
  | succ f ih =>
    intro i hs
    rw [downL]
    split
    · rename_i x y hx hy
      split
      · exact (ih _ _).trans (swap_perm hy hx)
      · exact .refl _
    · exact .refl _

/-- the child that is looked at is a child, and the least one -/
theorem kid_least (hk : Keyed c κ) {hs : List (Held Item)} {i : Nat} {x : Held Item} (hx : hs[kid c hs i]? = some x) :
    0 < kid c hs i ∧ (kid c hs i - 1) / 2 = i ∧ ∀ j u, 0 < j → (j - 1) / 2 = i → hs[j]? = some u → leH c x u := by
  have hsib : ∀ j, 0 < j → (j - 1) / 2 = i → j = 2 * i + 1 ∨ j = 2 * i + 2 := fun j h1 h2 => by omega
  by_cases h2 : 2 * i + 2 < hs.length
  · have e2 : hs[2 * i + 2]? = some hs[2 * i + 2] := List.getElem?_eq_getElem _
    have e1 : hs[2 * i + 1]? = some (hs[2 * i + 1]'(by omega)) := List.getElem?_eq_getElem _
    generalize hs[2 * i + 2] = a at e2
    generalize hs[2 * i + 1]'(by omega) = b at e1
    have ek := kid_two (c := c) e2 e1
    by_cases ha : aheadB c a b = true
    · rw [if_pos ha] at ek
      rw [ek] at hx ⊢
      rw [e2] at hx
      obtain rfl := Option.some.inj hx
      refine ⟨by omega, by omega, fun j u h1 h2 hu => ?_⟩
      rcases hsib j h1 h2 with rfl | rfl
      · rw [e1] at hu
        obtain rfl := Option.some.inj hu
        exact leH.of_ahead hk ha
      · rw [e2] at hu
        obtain rfl := Option.some.inj hu
        exact leH.refl hk _
    · rw [if_neg ha] at ek
      rw [ek] at hx ⊢
      rw [e1] at hx
      obtain rfl := Option.some.inj hx
      refine ⟨by omega, by omega, fun j u h1 h2 hu => ?_⟩
      rcases hsib j h1 h2 with rfl | rfl
      · rw [e1] at hu
        obtain rfl := Option.some.inj hu
        exact leH.refl hk _
      · rw [e2] at hu
        obtain rfl := Option.some.inj hu
        show aheadB c a b = false
        simpa using ha
  · have ek := kid_one (c := c) (i := i) (hs := hs) (by omega)
    rw [ek] at hx ⊢
    refine ⟨by omega, by omega, fun j u h1 h3 hu => ?_⟩
    have hl := (List.getElem?_eq_some_iff.1 hu).1
    rcases hsib j h1 h3 with rfl | rfl
    · rw [hx] at hu
      obtain rfl := Option.some.inj hu
      exact leH.refl hk _
    · omega

theorem down_heap (hk : Keyed c κ) : ∀ (f i : Nat) (hs : List (Held Item)), hs.length - i ≤ f →
    (∀ j x y, 0 < j → (j - 1) / 2 ≠ i → hs[j]? = some x → hs[(j - 1) / 2]? = some y → leH c y x) →
    (∀ j x y, 0 < i → 0 < j → (j - 1) / 2 = i → hs[j]? = some x → hs[(i - 1) / 2]? = some y → leH c y x) → IsHeap c (downL c f hs i) := by
  intro f
  induction f with
  | zero =>
    intro i hs hf hA hB
    rw [downL]
    intro j u v hj hu hv
    have hl := (List.getElem?_eq_some_iff.1 hu).1
    exact hA j u v hj (by omega) hu hv
  | succ f ih =>
    intro i hs hf hA hB
    rw [downL]
    split
    · rename_i x y hx hy
      obtain ⟨k0, kp, kl⟩ := kid_least hk hx
      have hkl := (List.getElem?_eq_some_iff.1 hx).1
      generalize kid c hs i = k at hx k0 kp kl hkl ⊢
      have hki : i < k := by omega
      split
      · rename_i ha
        have hxy := leH.of_ahead hk ha
        refine ih _ _ (by simp only [List.length_set]; omega) ?_ ?_
        · intro j u v hj hne hu hv
          rcases swap_get hy hx hu with ⟨rfl, rfl⟩ | ⟨_, rfl, rfl⟩ | ⟨n1, n2, hu'⟩
          · rcases swap_get hy hx hv with ⟨e, _⟩ | ⟨_, _, rfl⟩ | ⟨_, e, _⟩
            · omega
            · exact hxy
            · exact absurd kp e
          · rcases swap_get hy hx hv with ⟨e, _⟩ | ⟨_, e, _⟩ | ⟨_, _, hv'⟩
            · omega
            · omega
            · exact hB k u v hj k0 kp hx hv'
          · rcases swap_get hy hx hv with ⟨e, _⟩ | ⟨_, e, rfl⟩ | ⟨_, e, hv'⟩
            · exact absurd e hne
            · exact kl j u hj e hu'
            · exact hA j u v hj e hu' hv'
        · intro j u v _ hj he hu hv
          rw [kp] at hv
          have hvx : v = x := by
            rcases swap_get hy hx hv with ⟨e, _⟩ | ⟨_, _, h⟩ | ⟨_, e, _⟩
            · omega
            · exact h
            · exact absurd rfl e
          subst hvx
          rcases swap_get hy hx hu with ⟨e, _⟩ | ⟨_, e, _⟩ | ⟨_, _, hu'⟩
          · omega
          · omega
          · exact hA j u v hj (by omega) hu' (by rw [he]; exact hx)
      · rename_i ha
        have ha' : leH c y x := by
          show aheadB c x y = false
          simpa using ha
        intro j u v hj hu hv
        by_cases hji : (j - 1) / 2 = i
        · rw [hji, hy] at hv
          obtain rfl := Option.some.inj hv
          exact ha'.trans hk (kl j u hj hji hu)
        · exact hA j u v hj hji hu hv
    · rename_i hn
      intro j u v hj hu hv
      by_cases hji : (j - 1) / 2 = i
      · exfalso
        have hl := (List.getElem?_eq_some_iff.1 hu).1
        have h1 : 2 * i + 1 < hs.length := by omega
        have hkk : kid c hs i < hs.length := by
          by_cases h2 : 2 * i + 2 < hs.length
          · have e2 : hs[2 * i + 2]? = some hs[2 * i + 2] := List.getElem?_eq_getElem _
            have e1 : hs[2 * i + 1]? = some (hs[2 * i + 1]'(by omega)) := List.getElem?_eq_getElem _
            rw [kid_two e2 e1]
            split <;> omega
          · rw [kid_one (by omega)]
            omega
        exact hn _ _ (List.getElem?_eq_getElem hkk) (List.getElem?_eq_getElem (by omega : i < hs.length))
      · exact hA j u v hj hji hu hv

theorem takeL_heap (hk : Keyed c κ) {hs : List (Held Item)} (h : IsHeap c hs) : IsHeap c (takeL c hs) := by
  unfold takeL
  split
  · rename_i z hz
    have hl := (List.getElem?_eq_some_iff.1 hz).1
    refine down_heap hk _ _ _ (by simp) ?_ (fun j x y h0 => by omega)
    intro j u v hj hne hu hv
    rw [List.getElem?_take] at hu hv
    split at hu
    · split at hv
      · rw [List.getElem?_set, if_neg (by omega)] at hu hv
        exact h j u v hj hu hv
      · omega
    · cases hu
  · exact IsHeap.nil
theorem takeL_perm {h0 : Held Item} {hr : List (Held Item)} : (takeL c (h0 :: hr)).Perm hr := by
  unfold takeL
  split
  · rename_i z hz
    refine (down_perm _ _ _).trans ?_
    rw [List.set_cons_zero, List.length_cons, Nat.add_sub_cancel]
    rw [List.length_cons, Nat.add_sub_cancel] at hz
    rcases List.eq_nil_or_concat hr with rfl | ⟨ini, l, rfl⟩
    · exact .refl _
    · rw [List.concat_eq_append, List.length_append, List.length_singleton] at *
      rw [List.getElem?_cons_succ] at hz
      rw [List.getElem?_append_right (Nat.le_refl _)] at hz
      simp only [Nat.sub_self, List.getElem?_cons_zero, Option.some.injEq] at hz
      subst hz
      rw [List.take_succ_cons, List.take_left]
      exact (List.perm_append_singleton l ini).symm
  · rename_i hz
    rw [List.length_cons, Nat.add_sub_cancel, List.getElem?_eq_none_iff, List.length_cons] at hz
    omega
/-! ### all that is taken, in order -/
/-- what n Takes hand out -/
def drainL (c : Item → Item → Int) : Nat → List (Held Item) → List (Held Item)
  | 0, _ => []
  | _ + 1, [] => []
  | n + 1, h :: hr => h :: drainL c n (takeL c (h :: hr))
theorem takeL_lenH {h : Held Item} {hr : List (Held Item)} : (takeL c (h :: hr)).length = hr.length := (takeL_perm (c := c)).length_eq
theorem drain_perm : ∀ (n : Nat) (hs : List (Held Item)), hs.length = n → (drainL c n hs).Perm hs
  | 0, hs, h => by
    rw [List.length_eq_zero_iff.1 h]
    exact .refl _
  | n + 1, [], h => by simp at h
  | n + 1, x :: hr, h => by
    rw [drainL]
    have h1 : hr.length = n := by simpa using h
    exact ((drain_perm n (takeL c (x :: hr)) (by rw [takeL_lenH, h1])).trans takeL_perm).cons x
theorem drain_sorted (hk : Keyed c κ) : ∀ (n : Nat) (hs : List (Held Item)), hs.length = n → IsHeap c hs → (drainL c n hs).Pairwise (leH c)
  | 0, _, _, _ => .nil
  | n + 1, [], h, _ => by simp at h
  | n + 1, x :: hr, h, hp => by
    rw [drainL]
    have h1 : hr.length = n := by simpa using h
    have h2 : (takeL c (x :: hr)).length = n := by rw [takeL_lenH, h1]
    refine List.pairwise_cons.2 ⟨fun y hy => ?_, drain_sorted hk n _ h2 (takeL_heap hk hp)⟩
    have h3 : y ∈ x :: hr := List.mem_cons_of_mem _ (takeL_perm.mem_iff.1 ((drain_perm n _ h2).mem_iff.1 hy))
    obtain ⟨i, hi, e⟩ := List.mem_iff_getElem.1 h3
    exact hp.top hk (t := x) rfl i y (by rw [← e]; exact List.getElem?_eq_getElem hi)
theorem heldFrom_le : ∀ (xs : List Item) (m : Int) (a : Held Item), a ∈ heldFrom m xs → m ≤ a.2
  | [], _, _, h => by simp [heldFrom] at h
  | x :: xs, m, a, h => by
    rw [heldFrom] at h
    rcases List.mem_cons.1 h with rfl | h
    · exact Int.le_refl _
    · have := heldFrom_le xs (m + 1) a h
      omega
theorem heldFrom_up : ∀ (xs : List Item) (m : Int), (heldFrom m xs).Pairwise (fun a b => a.2 < b.2)
  | [], _ => .nil
  | x :: xs, m => by
    rw [heldFrom]
    refine List.pairwise_cons.2 ⟨fun a ha => ?_, heldFrom_up xs (m + 1)⟩
    have := heldFrom_le xs (m + 1) a ha
    show m < a.2
    omega
theorem heldFrom_inj : ∀ (xs : List Item) (m : Int) (a b : Held Item), a ∈ heldFrom m xs → b ∈ heldFrom m xs → a.2 = b.2 → a = b
  | [], _, _, _, h, _, _ => by simp [heldFrom] at h
  | x :: xs, m, a, b, ha, hb, e => by
    rw [heldFrom] at ha hb
    rcases List.mem_cons.1 ha with rfl | ha
    · rcases List.mem_cons.1 hb with rfl | hb
      · rfl
      · have := heldFrom_le xs (m + 1) b hb
        simp only at e
        omega
    · rcases List.mem_cons.1 hb with rfl | hb
      · have := heldFrom_le xs (m + 1) a ha
        simp only at e
        omega
      · exact heldFrom_inj xs (m + 1) a b ha hb e
theorem heldFrom_filter (v : Int) : ∀ (xs : List Item) (m : Int), ((heldFrom m xs).filter (fun a => κ a.1 == v)).map (·.1) = xs.filter (fun a => κ a == v)
  | [], _ => rfl
  | x :: xs, m => by
    rw [heldFrom]
    by_cases h : κ x = v
    · rw [List.filter_cons_of_pos (by simp [h]), List.filter_cons_of_pos (by simp [h]), List.map_cons, heldFrom_filter v xs (m + 1)]
    · rw [List.filter_cons_of_neg (by simp [h]), List.filter_cons_of_neg (by simp [h]), heldFrom_filter v xs (m + 1)]
/-- what a bag hands out is the sorted list -/
theorem drain_sorts (hk : Keyed c κ) {hs : List (Held Item)} {m : Int} {xs : List Item} (h : IsHeap c hs) (hp : hs.Perm (heldFrom m xs)) (n : Nat) (hn : hs.length = n) : Sorts κ xs ((drainL c n hs).map (·.1)) := by
  have h1 := drain_sorted hk n hs hn h
  have h2 := (drain_perm (c := c) n hs hn).trans hp
  refine ⟨?_, fun v => ?_⟩
  · rw [List.pairwise_map]
    refine h1.imp (fun {a b} hab => ?_)
    rw [leH_iff hk] at hab
    omega
  · rw [← heldFrom_filter (κ := κ) v xs m, List.filter_map]
    have e : (drainL c n hs).filter ((fun a => κ a == v) ∘ (·.1)) = (heldFrom m xs).filter (fun a => κ a.1 == v) := by
      refine List.Perm.eq_of_pairwise (le := fun a b => a.2 ≤ b.2) ?_ ?_ ?_ (h2.filter _)
      · intro a b ha hb h3 h4
        exact heldFrom_inj xs m a b (h2.mem_iff.1 (List.mem_filter.1 ha).1) (List.mem_filter.1 hb).1 (by omega)
      · rw [List.pairwise_filter]
        refine h1.imp (fun {a b} hab ha hb => ?_)
        rw [leH_iff hk] at hab
        have ea : κ a.1 = v := by simpa using ha
        have eb : κ b.1 = v := by simpa using hb
        omega
      · exact ((heldFrom_up xs m).imp (fun {a b} hab => Int.le_of_lt hab)).filter _
    rw [e]
end
end Go.Proofs.Ytnofckgnnpmiiaa
