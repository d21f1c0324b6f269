import Derived.Test.YtnofckgnnpmiiaaHpS
import Derived.Test.YtnofckgnnpmiiaaPl
import Derived.Test.YtnofckgnnpmiiaaTw
import Derived.Test.YtnofckgnnpmiiaaSe
import Derived.Test.YtnofckgnnpmiiaaBgS
import Derived.Test.YtnofckgnnpmiiaaPm
import Derived.Test.YtnofckgnnpmiiaaRt
import Derived.Test.YtnofckgnnpmiiaaRs
import Derived.Test.YtnofckgnnpmiiaaTkS
import Derived.Test.YtnofckgnnpmiiaaAdS
import Derived.Test.YtnofckgnnpmiiaaTwS
import Derived.Test.YtnofckgnnpmiiaaSeS
import Derived.Test.YtnofckgnnpmiiaaSoS
import Derived.Test.YtnofckgnnpmiiaaRq
import Derived.Test.YtnofckgnnpmiiaaQk
import Derived.Test.YtnofckgnnpmiiaaLv
import Derived.Deep.Cut
import Derived.Test.YtnofckgnnpmiiaaRw
import Derived.SliceStrings
import Derived.Carry
/- The heap law: Add and Take keep the heap, the top is the least, and what is taken comes in order. Plain Lean, at strings. -/
namespace Go.Proofs.Ytnofckgnnpmiiaa.Str

/-- y does not go ahead of x -/
def leH (c : ByteArray → ByteArray → Int) (x y : Held ByteArray) : Prop := aheadB c y x = false

section
variable {c : ByteArray → ByteArray → Int} {κ : ByteArray → Int}

theorem aheadB_iff (hk : Keyed c κ) (x y : Held ByteArray) : aheadB c x y = true ↔ κ x.1 < κ y.1 ∨ (κ x.1 = κ y.1 ∧ x.2 < y.2) := by
  unfold aheadB
  rw [Bool.or_eq_true, Bool.and_eq_true, decide_eq_true_iff, decide_eq_true_iff, beq_iff_eq, hk.lt, hk.eq]
theorem leH_iff (hk : Keyed c κ) (x y : Held ByteArray) : leH c x y ↔ κ x.1 < κ y.1 ∨ (κ x.1 = κ y.1 ∧ x.2 ≤ y.2) := by
  unfold leH
  rw [← Bool.not_eq_true, aheadB_iff hk]
  omega
theorem leH.trans (hk : Keyed c κ) {x y z : Held ByteArray} (h : leH c x y) (k : leH c y z) : leH c x z := by
  rw [leH_iff hk] at h k ⊢
  omega
theorem leH.refl (hk : Keyed c κ) (x : Held ByteArray) : leH c x x := by
  rw [leH_iff hk]
  omega
theorem leH.of_ahead (hk : Keyed c κ) {x y : Held ByteArray} (h : aheadB c x y = true) : leH c x y := by
  rw [aheadB_iff hk] at h
  rw [leH_iff hk]
  omega

/-- a list that is a heap -/
def IsHeap (c : ByteArray → ByteArray → Int) (hs : List (Held ByteArray)) : Prop :=
  ∀ j x y, 0 < j → hs[j]? = some x → hs[(j - 1) / 2]? = some y → leH c y x

theorem IsHeap.top (hk : Keyed c κ) {hs : List (Held ByteArray)} (h : IsHeap c hs) {t : Held ByteArray} (ht : hs[0]? = some t) : ∀ (i : Nat) (x : Held ByteArray), hs[i]? = some x → leH c t x := by
  intro i
  induction i using Nat.strongRecOn with
  | _ i ih =>
    intro x hx
    by_cases h0 : i = 0
    · subst h0
      rw [ht] at hx
      obtain rfl := Option.some.inj hx
      exact leH.refl hk _
    · have hl := (List.getElem?_eq_some_iff.1 hx).1
      have hp : hs[(i - 1) / 2]? = some (hs[(i - 1) / 2]'(by omega)) := List.getElem?_eq_getElem _
      exact (ih _ (by omega) _ hp).trans hk (h i _ _ (by omega) hx hp)

/-- two elements change places -/
theorem swap_perm {hs : List (Held ByteArray)} {i j : Nat} {x y : Held ByteArray} (hx : hs[i]? = some x) (hy : hs[j]? = some y) : ((hs.set i y).set j x).Perm hs := by
  obtain ⟨h1, rfl⟩ := List.getElem?_eq_some_iff.1 hx
  obtain ⟨h2, rfl⟩ := List.getElem?_eq_some_iff.1 hy
  exact List.set_set_perm h1 h2
theorem swap_get {hs : List (Held ByteArray)} {i j k : Nat} {x y z : Held ByteArray} (hx : hs[i]? = some x) (hy : hs[j]? = some y) (h : ((hs.set i y).set j x)[k]? = some z) :
    (k = j ∧ z = x) ∨ (k ≠ j ∧ k = i ∧ z = y) ∨ (k ≠ j ∧ k ≠ i ∧ hs[k]? = some z) := by
  have h1 := (List.getElem?_eq_some_iff.1 hx).1
  have h2 := (List.getElem?_eq_some_iff.1 hy).1
  rw [List.getElem?_set, List.getElem?_set, List.length_set] at h
  by_cases e1 : j = k
  · rw [if_pos e1, if_pos h2] at h
    exact .inl ⟨e1.symm, (Option.some.inj h).symm⟩
  · rw [if_neg e1] at h
    by_cases e2 : i = k
    · rw [if_pos e2, if_pos h1] at h
      exact .inr (.inl ⟨fun e => e1 e.symm, e2.symm, (Option.some.inj h).symm⟩)
    · rw [if_neg e2] at h
      exact .inr (.inr ⟨fun e => e1 e.symm, fun e => e2 e.symm, h⟩)

theorem up_perm (f : Nat) : ∀ (i : Nat) (hs : List (Held ByteArray)), (upL c f hs i).Perm hs := by
  induction f with
  | zero => intro i hs; exact .refl _
  | succ f ih =>
    intro i hs
    rw [upL]
    split
    · exact .refl _
    · split
      · rename_i x y hx hy
        split
        · exact (ih _ _).trans (swap_perm hx hy)
        · exact .refl _
      · exact .refl _

theorem up_heap (hk : Keyed c κ) : ∀ (i : Nat) (hs : List (Held ByteArray)), i < hs.length →
    (∀ j x y, 0 < j → j ≠ i → hs[j]? = some x → hs[(j - 1) / 2]? = some y → leH c y x) →
    (∀ j x y, 0 < i → 0 < j → (j - 1) / 2 = i → hs[j]? = some x → hs[(i - 1) / 2]? = some y → leH c y x) → IsHeap c (upL c i hs i) := by
  intro i
  induction i using Nat.strongRecOn with
  | _ i ih =>
    intro hs hl hA hB
    by_cases h0 : i = 0
    · subst h0
      rw [upL_zero]
      intro j x y hj hx hy
      exact hA j x y hj (by omega) hx hy
    · have hp : (i - 1) / 2 < i := by omega
      have hx : hs[i]? = some hs[i] := List.getElem?_eq_getElem _
      have hy : hs[(i - 1) / 2]? = some (hs[(i - 1) / 2]'(by omega)) := List.getElem?_eq_getElem _
      generalize hs[i] = x at hx
      generalize hs[(i - 1) / 2]'(by omega) = y at hy
      by_cases ha : aheadB c x y = true
      · rw [upL_go (by omega) hx hy ha]
        have hxy := leH.of_ahead hk ha
        refine ih _ hp _ (by simp only [List.length_set]; omega) ?_ ?_
        · intro j u v hj hne hu hv
          rcases swap_get hx hy hu with ⟨e, _⟩ | ⟨_, e, rfl⟩ | ⟨n1, n2, hu'⟩
          · exact absurd e hne
          · subst e
            rcases swap_get hx hy hv with ⟨_, rfl⟩ | ⟨e, _, _⟩ | ⟨e, _, _⟩
            · exact hxy
            · exact absurd rfl e
            · exact absurd rfl e
          · rcases swap_get hx hy hv with ⟨e, rfl⟩ | ⟨_, e, rfl⟩ | ⟨_, _, hv'⟩
            · exact hxy.trans hk (hA j u y hj n2 hu' (by rw [e]; exact hy))
            · exact hB j u v (by omega) hj e hu' hy
            · exact hA j u v hj n2 hu' hv'
        · intro j u v hpi hj he hu hv
          have hv' : hs[((i - 1) / 2 - 1) / 2]? = some v := by
            rcases swap_get hx hy hv with ⟨e, _⟩ | ⟨_, e, _⟩ | ⟨_, _, h⟩
            · omega
            · omega
            · exact h
          have hvy : leH c v y := hA _ _ _ hpi (by omega) hy hv'
          rcases swap_get hx hy hu with ⟨e, _⟩ | ⟨_, e, rfl⟩ | ⟨n1, n2, hu'⟩
          · omega
          · exact hvy
          · exact hvy.trans hk (hA j u y hj n2 hu' (by rw [he]; exact hy))
      · have ha' : aheadB c x y = false := by simpa using ha
        rw [upL_stay (by omega) hx hy ha']
        intro j u v hj hu hv
        by_cases hji : j = i
        · subst hji
          rw [hx] at hu
          rw [hy] at hv
          obtain rfl := Option.some.inj hu
          obtain rfl := Option.some.inj hv
          exact ha'
        · exact hA j u v hj hji hu hv

theorem addOne_perm (hs : List (Held ByteArray)) (m : Int) (x : ByteArray) : (addOne c hs m x).Perm (hs ++ [(x, m)]) := up_perm _ _ _
theorem addOne_heap (hk : Keyed c κ) {hs : List (Held ByteArray)} (h : IsHeap c hs) (m : Int) (x : ByteArray) : IsHeap c (addOne c hs m x) := by
  refine up_heap hk _ _ (by simp) ?_ ?_
  · intro j u v hj hne hu hv
    have hl := (List.getElem?_eq_some_iff.1 hu).1
    rw [List.length_append, List.length_singleton] at hl
    rw [List.getElem?_append_left (by omega)] at hu hv
    exact h j u v hj hu hv
  · intro j u v _ hj he hu _
    have hl := (List.getElem?_eq_some_iff.1 hu).1
    rw [List.length_append, List.length_singleton] at hl
    omega
theorem addL_heap (hk : Keyed c κ) : ∀ (xs : List ByteArray) (hs : List (Held ByteArray)) (m : Int), IsHeap c hs → IsHeap c (addL c hs m xs)
  | [], _, _, h => h
  | x :: xs, _, m, h => addL_heap hk xs _ _ (addOne_heap hk h m x)
/-- xs with the numbers from m on -/
def heldFrom (m : Int) : List ByteArray → List (Held ByteArray)
  | [] => []
  | x :: xs => (x, m) :: heldFrom (m + 1) xs
theorem addL_perm : ∀ (xs : List ByteArray) (hs : List (Held ByteArray)) (m : Int), (addL c hs m xs).Perm (hs ++ heldFrom m xs)
  | [], hs, m => by simp [addL, heldFrom]
  | x :: xs, hs, m => by
    rw [addL, heldFrom]
    refine (addL_perm xs _ _).trans ?_
    refine ((addOne_perm hs m x).append_right _).trans ?_
    rw [List.append_assoc]
    exact .refl _
theorem IsHeap.nil : IsHeap c [] := fun j x y _ h => by simp at h

/-! ### down -/
theorem down_perm (f : Nat) : ∀ (i : Nat) (hs : List (Held ByteArray)), (downL c f hs i).Perm hs := by
  induction f with
  | zero => intro i hs; exact .refl _
  | succ f ih =>
    intro i hs
    rw [downL]
    split
    · rename_i x y hx hy
      split
      · exact (ih _ _).trans (swap_perm hy hx)
      · exact .refl _
    · exact .refl _

/-- the child that is looked at is a child, and the least one -/
theorem kid_least (hk : Keyed c κ) {hs : List (Held ByteArray)} {i : Nat} {x : Held ByteArray} (hx : hs[kid c hs i]? = some x) :
    0 < kid c hs i ∧ (kid c hs i - 1) / 2 = i ∧ ∀ j u, 0 < j → (j - 1) / 2 = i → hs[j]? = some u → leH c x u := by
  have hsib : ∀ j, 0 < j → (j - 1) / 2 = i → j = 2 * i + 1 ∨ j = 2 * i + 2 := fun j h1 h2 => by omega
  by_cases h2 : 2 * i + 2 < hs.length
  · have e2 : hs[2 * i + 2]? = some hs[2 * i + 2] := List.getElem?_eq_getElem _
    have e1 : hs[2 * i + 1]? = some (hs[2 * i + 1]'(by omega)) := List.getElem?_eq_getElem _
    generalize hs[2 * i + 2] = a at e2
    generalize hs[2 * i + 1]'(by omega) = b at e1
    have ek := kid_two (c := c) e2 e1
    by_cases ha : aheadB c a b = true
    · rw [if_pos ha] at ek
      rw [ek] at hx ⊢
      rw [e2] at hx
      obtain rfl := Option.some.inj hx
      refine ⟨by omega, by omega, fun j u h1 h2 hu => ?_⟩
      rcases hsib j h1 h2 with rfl | rfl
      · rw [e1] at hu
        obtain rfl := Option.some.inj hu
        exact leH.of_ahead hk ha
      · rw [e2] at hu
        obtain rfl := Option.some.inj hu
        exact leH.refl hk _
    · rw [if_neg ha] at ek
      rw [ek] at hx ⊢
      rw [e1] at hx
      obtain rfl := Option.some.inj hx
      refine ⟨by omega, by omega, fun j u h1 h2 hu => ?_⟩
      rcases hsib j h1 h2 with rfl | rfl
      · rw [e1] at hu
        obtain rfl := Option.some.inj hu
        exact leH.refl hk _
      · rw [e2] at hu
        obtain rfl := Option.some.inj hu
        show aheadB c a b = false
        simpa using ha
  · have ek := kid_one (c := c) (i := i) (hs := hs) (by omega)
    rw [ek] at hx ⊢
    refine ⟨by omega, by omega, fun j u h1 h3 hu => ?_⟩
    have hl := (List.getElem?_eq_some_iff.1 hu).1
    rcases hsib j h1 h3 with rfl | rfl
    · rw [hx] at hu
      obtain rfl := Option.some.inj hu
      exact leH.refl hk _
    · omega

theorem down_heap (hk : Keyed c κ) : ∀ (f i : Nat) (hs : List (Held ByteArray)), hs.length - i ≤ f →
    (∀ j x y, 0 < j → (j - 1) / 2 ≠ i → hs[j]? = some x → hs[(j - 1) / 2]? = some y → leH c y x) →
    (∀ j x y, 0 < i → 0 < j → (j - 1) / 2 = i → hs[j]? = some x → hs[(i - 1) / 2]? = some y → leH c y x) → IsHeap c (downL c f hs i) := by
  intro f
  induction f with
  | zero =>
    intro i hs hf hA hB
    rw [downL]
    intro j u v hj hu hv
    have hl := (List.getElem?_eq_some_iff.1 hu).1
    exact hA j u v hj (by omega) hu hv
  | succ f ih =>
    intro i hs hf hA hB
    rw [downL]
    split
    · rename_i x y hx hy
      obtain ⟨k0, kp, kl⟩ := kid_least hk hx
      have hkl := (List.getElem?_eq_some_iff.1 hx).1
      generalize kid c hs i = k at hx k0 kp kl hkl ⊢
      have hki : i < k := by omega
      split
      · rename_i ha
        have hxy := leH.of_ahead hk ha
        refine ih _ _ (by simp only [List.length_set]; omega) ?_ ?_
        · intro j u v hj hne hu hv
          rcases swap_get hy hx hu with ⟨rfl, rfl⟩ | ⟨_, rfl, rfl⟩ | ⟨n1, n2, hu'⟩
          · rcases swap_get hy hx hv with ⟨e, _⟩ | ⟨_, _, rfl⟩ | ⟨_, e, _⟩
            · omega
            · exact hxy
            · exact absurd kp e
          · rcases swap_get hy hx hv with ⟨e, _⟩ | ⟨_, e, _⟩ | ⟨_, _, hv'⟩
            · omega
            · omega
            · exact hB k u v hj k0 kp hx hv'
          · rcases swap_get hy hx hv with ⟨e, _⟩ | ⟨_, e, rfl⟩ | ⟨_, e, hv'⟩
            · exact absurd e hne
            · exact kl j u hj e hu'
            · exact hA j u v hj e hu' hv'
        · intro j u v _ hj he hu hv
          rw [kp] at hv
          have hvx : v = x := by
            rcases swap_get hy hx hv with ⟨e, _⟩ | ⟨_, _, h⟩ | ⟨_, e, _⟩
            · omega
            · exact h
            · exact absurd rfl e
          subst hvx
          rcases swap_get hy hx hu with ⟨e, _⟩ | ⟨_, e, _⟩ | ⟨_, _, hu'⟩
          · omega
          · omega
          · exact hA j u v hj (by omega) hu' (by rw [he]; exact hx)
      · rename_i ha
        have ha' : leH c y x := by
          show aheadB c x y = false
          simpa using ha
        intro j u v hj hu hv
        by_cases hji : (j - 1) / 2 = i
        · rw [hji, hy] at hv
          obtain rfl := Option.some.inj hv
          exact ha'.trans hk (kl j u hj hji hu)
        · exact hA j u v hj hji hu hv
    · rename_i hn
      intro j u v hj hu hv
      by_cases hji : (j - 1) / 2 = i
      · exfalso
        have hl := (List.getElem?_eq_some_iff.1 hu).1
        have h1 : 2 * i + 1 < hs.length := by omega
        have hkk : kid c hs i < hs.length := by
          by_cases h2 : 2 * i + 2 < hs.length
          · have e2 : hs[2 * i + 2]? = some hs[2 * i + 2] := List.getElem?_eq_getElem _
            have e1 : hs[2 * i + 1]? = some (hs[2 * i + 1]'(by omega)) := List.getElem?_eq_getElem _
            rw [kid_two e2 e1]
            split <;> omega
          · rw [kid_one (by omega)]
            omega
        exact hn _ _ (List.getElem?_eq_getElem hkk) (List.getElem?_eq_getElem (by omega : i < hs.length))
      · exact hA j u v hj hji hu hv

theorem takeL_heap (hk : Keyed c κ) {hs : List (Held ByteArray)} (h : IsHeap c hs) : IsHeap c (takeL c hs) := by
  unfold takeL
  split
  · rename_i z hz
    have hl := (List.getElem?_eq_some_iff.1 hz).1
    refine down_heap hk _ _ _ (by simp) ?_ (fun j x y h0 => by omega)
    intro j u v hj hne hu hv
    rw [List.getElem?_take] at hu hv
    split at hu
    · split at hv
      · rw [List.getElem?_set, if_neg (by omega)] at hu hv
        exact h j u v hj hu hv
      · omega
    · cases hu
  · exact IsHeap.nil
theorem takeL_perm {h0 : Held ByteArray} {hr : List (Held ByteArray)} : (takeL c (h0 :: hr)).Perm hr := by
  unfold takeL
  split
  · rename_i z hz
    refine (down_perm _ _ _).trans ?_
    rw [List.set_cons_zero, List.length_cons, Nat.add_sub_cancel]
    rw [List.length_cons, Nat.add_sub_cancel] at hz
    rcases List.eq_nil_or_concat hr with rfl | ⟨ini, l, rfl⟩
    · exact .refl _
    · rw [List.concat_eq_append, List.length_append, List.length_singleton] at *
      rw [List.getElem?_cons_succ] at hz
      rw [List.getElem?_append_right (Nat.le_refl _)] at hz
      simp only [Nat.sub_self, List.getElem?_cons_zero, Option.some.injEq] at hz
      subst hz
      rw [List.take_succ_cons, List.take_left]
      exact (List.perm_append_singleton l ini).symm
  · rename_i hz
    rw [List.length_cons, Nat.add_sub_cancel, List.getElem?_eq_none_iff, List.length_cons] at hz
    omega
/-! ### all that is taken, in order -/
/-- what n Takes hand out -/
def drainL (c : ByteArray → ByteArray → Int) : Nat → List (Held ByteArray) → List (Held ByteArray)
  | 0, _ => []
  | _ + 1, [] => []
  | n + 1, h :: hr => h :: drainL c n (takeL c (h :: hr))
theorem takeL_lenH {h : Held ByteArray} {hr : List (Held ByteArray)} : (takeL c (h :: hr)).length = hr.length := (takeL_perm (c := c)).length_eq
theorem drain_perm : ∀ (n : Nat) (hs : List (Held ByteArray)), hs.length = n → (drainL c n hs).Perm hs
  | 0, hs, h => by
    rw [List.length_eq_zero_iff.1 h]
    exact .refl _
  | n + 1, [], h => by simp at h
  | n + 1, x :: hr, h => by
    rw [drainL]
    have h1 : hr.length = n := by simpa using h
    exact ((drain_perm n (takeL c (x :: hr)) (by rw [takeL_lenH, h1])).trans takeL_perm).cons x
theorem drain_sorted (hk : Keyed c κ) : ∀ (n : Nat) (hs : List (Held ByteArray)), hs.length = n → IsHeap c hs → (drainL c n hs).Pairwise (leH c)
  | 0, _, _, _ => .nil
  | n + 1, [], h, _ => by simp at h
  | n + 1, x :: hr, h, hp => by
    rw [drainL]
    have h1 : hr.length = n := by simpa using h
    have h2 : (takeL c (x :: hr)).length = n := by rw [takeL_lenH, h1]
    refine List.pairwise_cons.2 ⟨fun y hy => ?_, drain_sorted hk n _ h2 (takeL_heap hk hp)⟩
    have h3 : y ∈ x :: hr := List.mem_cons_of_mem _ (takeL_perm.mem_iff.1 ((drain_perm n _ h2).mem_iff.1 hy))
    obtain ⟨i, hi, e⟩ := List.mem_iff_getElem.1 h3
    exact hp.top hk (t := x) rfl i y (by rw [← e]; exact List.getElem?_eq_getElem hi)
theorem heldFrom_le : ∀ (xs : List ByteArray) (m : Int) (a : Held ByteArray), a ∈ heldFrom m xs → m ≤ a.2
  | [], _, _, h => by simp [heldFrom] at h
  | x :: xs, m, a, h => by
    rw [heldFrom] at h
    rcases List.mem_cons.1 h with rfl | h
    · exact Int.le_refl _
    · have := heldFrom_le xs (m + 1) a h
      omega
theorem heldFrom_up : ∀ (xs : List ByteArray) (m : Int), (heldFrom m xs).Pairwise (fun a b => a.2 < b.2)
  | [], _ => .nil
  | x :: xs, m => by
    rw [heldFrom]
    refine List.pairwise_cons.2 ⟨fun a ha => ?_, heldFrom_up xs (m + 1)⟩
    have := heldFrom_le xs (m + 1) a ha
    show m < a.2
    omega
theorem heldFrom_inj : ∀ (xs : List ByteArray) (m : Int) (a b : Held ByteArray), a ∈ heldFrom m xs → b ∈ heldFrom m xs → a.2 = b.2 → a = b
  | [], _, _, _, h, _, _ => by simp [heldFrom] at h
  | x :: xs, m, a, b, ha, hb, e => by
    rw [heldFrom] at ha hb
    rcases List.mem_cons.1 ha with rfl | ha
    · rcases List.mem_cons.1 hb with rfl | hb
      · rfl
      · have := heldFrom_le xs (m + 1) b hb
        simp only at e
        omega
    · rcases List.mem_cons.1 hb with rfl | hb
      · have := heldFrom_le xs (m + 1) a ha
        simp only at e
        omega
      · exact heldFrom_inj xs (m + 1) a b ha hb e
theorem heldFrom_filter (v : Int) : ∀ (xs : List ByteArray) (m : Int), ((heldFrom m xs).filter (fun a => κ a.1 == v)).map (·.1) = xs.filter (fun a => κ a == v)
  | [], _ => rfl
  | x :: xs, m => by
    rw [heldFrom]
    by_cases h : κ x = v
    · rw [List.filter_cons_of_pos (by simp [h]), List.filter_cons_of_pos (by simp [h]), List.map_cons, heldFrom_filter v xs (m + 1)]
    · rw [List.filter_cons_of_neg (by simp [h]), List.filter_cons_of_neg (by simp [h]), heldFrom_filter v xs (m + 1)]
/-- what a bag hands out is the sorted list -/
theorem drain_sorts (hk : Keyed c κ) {hs : List (Held ByteArray)} {m : Int} {xs : List ByteArray} (h : IsHeap c hs) (hp : hs.Perm (heldFrom m xs)) (n : Nat) (hn : hs.length = n) : Sorts κ xs ((drainL c n hs).map (·.1)) := by
  have h1 := drain_sorted hk n hs hn h
  have h2 := (drain_perm (c := c) n hs hn).trans hp
  refine ⟨?_, fun v => ?_⟩
  · rw [List.pairwise_map]
    refine h1.imp (fun {a b} hab => ?_)
    rw [leH_iff hk] at hab
    omega
  · rw [← heldFrom_filter (κ := κ) v xs m, List.filter_map]
    have e : (drainL c n hs).filter ((fun a => κ a == v) ∘ (·.1)) = (heldFrom m xs).filter (fun a => κ a.1 == v) := by
      refine List.Perm.eq_of_pairwise (le := fun a b => a.2 ≤ b.2) ?_ ?_ ?_ (h2.filter _)
      · intro a b ha hb h3 h4
        exact heldFrom_inj xs m a b (h2.mem_iff.1 (List.mem_filter.1 ha).1) (List.mem_filter.1 hb).1 (by omega)
      · rw [List.pairwise_filter]
        refine h1.imp (fun {a b} hab ha hb => ?_)
        rw [leH_iff hk] at hab
        have ea : κ a.1 = v := by simpa using ha
        have eb : κ b.1 = v := by simpa using hb
        omega
      · exact ((heldFrom_up xs m).imp (fun {a b} hab => Int.le_of_lt hab)).filter _
    rw [e]
end
end Go.Proofs.Ytnofckgnnpmiiaa.Str

/- Two orders that agree on the elements at hand: Sort, Search and Twice make the same of them. Plain Lean. -/
namespace Go.Proofs.Ytnofckgnnpmiiaa
section
variable {α : Type} {c c' : α → α → Int} {P : α → Prop}

theorem mergeL_P {Q : α → Prop} : ∀ (xs ys : List α), (∀ z ∈ xs, Q z) → (∀ z ∈ ys, Q z) → ∀ z ∈ mergeL c xs ys, Q z := by
  intro xs ys
  fun_induction mergeL c xs ys with
  | case1 ys => intro _ h; exact h
  | case2 xs _ => intro h _; exact h
  | case3 x xs y ys hc ih =>
    intro h1 h2 z hz
    rcases List.mem_cons.1 hz with rfl | hz
    · exact h2 _ List.mem_cons_self
    · exact ih h1 (fun z hz => h2 z (List.mem_cons_of_mem _ hz)) z hz
  | case4 x xs y ys hc ih =>
    intro h1 h2 z hz
    rcases List.mem_cons.1 hz with rfl | hz
    · exact h1 _ List.mem_cons_self
    · exact ih (fun z hz => h1 z (List.mem_cons_of_mem _ hz)) h2 z hz

theorem mergeL_on (h : ∀ x y, P x → P y → c x y = c' x y) : ∀ (xs ys : List α), (∀ z ∈ xs, P z) → (∀ z ∈ ys, P z) → mergeL c xs ys = mergeL c' xs ys := by
  intro xs ys
  fun_induction mergeL c xs ys with
  | case1 ys => intro _ _; rw [mergeL]
  | case2 xs _ => intro _ _; rw [mergeL_nil]
  | case3 x xs y ys hc ih =>
    intro h1 h2
    rw [mergeL_y (by rw [← h y x (h2 _ List.mem_cons_self) (h1 _ List.mem_cons_self)]; exact hc), ih h1 (fun z hz => h2 z (List.mem_cons_of_mem _ hz))]
  | case4 x xs y ys hc ih =>
    intro h1 h2
    rw [mergeL_x (by rw [← h y x (h2 _ List.mem_cons_self) (h1 _ List.mem_cons_self)]; exact hc), ih (fun z hz => h1 z (List.mem_cons_of_mem _ hz)) h2]

theorem passL_P {m k : Nat} {xs : List α} (h : ∀ z ∈ xs, P z) : ∀ z ∈ passL c m xs k, P z := by
  intro z hz
  rw [passL, List.mem_flatMap] at hz
  obtain ⟨j, _, hz⟩ := hz
  rw [mergedAt] at hz
  exact mergeL_P (c := c) _ _ (fun z hz => h z (List.mem_of_mem_drop (List.mem_of_mem_take hz))) (fun z hz => h z (List.mem_of_mem_drop (List.mem_of_mem_take hz))) z hz
theorem passL_on (h : ∀ x y, P x → P y → c x y = c' x y) {m k : Nat} {xs : List α} (hx : ∀ z ∈ xs, P z) : passL c m xs k = passL c' m xs k := by
  rw [passL, passL]
  congr 1
  funext j
  rw [mergedAt, mergedAt]
  exact mergeL_on h _ _ (fun z hz => hx z (List.mem_of_mem_drop (List.mem_of_mem_take hz))) (fun z hz => hx z (List.mem_of_mem_drop (List.mem_of_mem_take hz)))
theorem stepsL_P {xs : List α} (h : ∀ z ∈ xs, P z) : ∀ p, ∀ z ∈ stepsL c xs p, P z
  | 0 => h
  | p + 1 => passL_P (stepsL_P h p)
theorem stepsL_on (h : ∀ x y, P x → P y → c x y = c' x y) {xs : List α} (hx : ∀ z ∈ xs, P z) : ∀ p, stepsL c xs p = stepsL c' xs p
  | 0 => rfl
  | p + 1 => by
    rw [stepsL, stepsL, ← stepsL_on h hx p]
    exact passL_on h (stepsL_P hx p)
theorem bsearch_on (h : ∀ x y, P x → P y → c x y = c' x y) {xs : List α} (hx : ∀ z ∈ xs, P z) {x : α} (px : P x) (lo hi : Nat) : bsearch c x xs lo hi = bsearch c' x xs lo hi := by
  fun_induction bsearch c x xs lo hi with
  | case1 lo hi hlt y hy hc ih =>
    rw [bsearch_step hlt hy, if_pos (by rw [← h y x (hx y (List.mem_of_getElem? hy)) px]; exact hc), ih]
  | case2 lo hi hlt y hy hc ih =>
    rw [bsearch_step hlt hy, if_neg (by rw [← h y x (hx y (List.mem_of_getElem? hy)) px]; exact hc), ih]
  | case3 lo hi hlt hn => rw [bsearch, if_pos hlt, hn]
  | case4 lo hi hlt => rw [bsearch_end hlt]
theorem alikeAt_on (h : ∀ x y, P x → P y → c x y = c' x y) {xs : List α} (hx : ∀ z ∈ xs, P z) {x : α} (px : P x) (k : Nat) : alikeAt c x xs k = alikeAt c' x xs k := by
  unfold alikeAt
  split
  · rename_i y hy
    rw [h y x (hx y (List.mem_of_getElem? hy)) px]
  · rfl
theorem byPlace_on (h : ∀ x y, P x → P y → c x y = c' x y) {xs : List α} (hx : ∀ z ∈ xs, P z) : byPlace c xs = byPlace c' xs := by
  funext i j
  exact h _ _ (hx _ (List.getElem_mem _)) (hx _ (List.getElem_mem _))
end
end Go.Proofs.Ytnofckgnnpmiiaa

/- Two orders that agree on the elements at hand: a bag of strings is the same under both. Plain Lean. -/
namespace Go.Proofs.Ytnofckgnnpmiiaa.Str
section
variable {c c' : ByteArray → ByteArray → Int} {P : ByteArray → Prop}

theorem aheadB_on (h : ∀ x y, P x → P y → c x y = c' x y) {x y : Held ByteArray} (px : P x.1) (py : P y.1) : aheadB c x y = aheadB c' x y := by
  unfold aheadB
  rw [h _ _ px py]
theorem upL_on (h : ∀ x y, P x → P y → c x y = c' x y) : ∀ (f i : Nat) (hs : List (Held ByteArray)), (∀ z ∈ hs, P z.1) → upL c f hs i = upL c' f hs i := by
  intro f
  induction f with
  | zero => intro i hs _; rfl
  | succ f ih =>
    intro i hs hp
    rw [upL, upL]
    split
    · rfl
    · split
      · rename_i x y hx hy
        rw [aheadB_on h (hp _ (List.mem_of_getElem? hx)) (hp _ (List.mem_of_getElem? hy))]
        split
        · exact ih _ _ (fun z hz => hp z ((swap_perm hx hy).mem_iff.1 hz))
        · rfl
      · rfl
theorem downL_on (h : ∀ x y, P x → P y → c x y = c' x y) : ∀ (f i : Nat) (hs : List (Held ByteArray)), (∀ z ∈ hs, P z.1) → downL c f hs i = downL c' f hs i := by
  intro f
  induction f with
  | zero => intro i hs _; rfl
  | succ f ih =>
    intro i hs hp
    have hk : kid c hs i = kid c' hs i := by
      unfold kid
      split
      · rename_i x y hx hy
        rw [aheadB_on h (hp _ (List.mem_of_getElem? hx)) (hp _ (List.mem_of_getElem? hy))]
      · rfl
    rw [downL, downL, hk]
    split
    · rename_i x y hx hy
      rw [aheadB_on h (hp _ (List.mem_of_getElem? hx)) (hp _ (List.mem_of_getElem? hy))]
      split
      · exact ih _ _ (fun z hz => hp z ((swap_perm hy hx).mem_iff.1 hz))
      · rfl
    · rfl
theorem addOne_on (h : ∀ x y, P x → P y → c x y = c' x y) {hs : List (Held ByteArray)} (hp : ∀ z ∈ hs, P z.1) (m : Int) {x : ByteArray} (px : P x) : addOne c hs m x = addOne c' hs m x := by
  unfold addOne
  refine upL_on h _ _ _ (fun z hz => ?_)
  rcases List.mem_append.1 hz with hz | hz
  · exact hp z hz
  · rw [List.mem_singleton] at hz
    subst hz
    exact px
theorem addL_on (h : ∀ x y, P x → P y → c x y = c' x y) : ∀ (xs : List ByteArray) (hs : List (Held ByteArray)) (m : Int), (∀ z ∈ hs, P z.1) → (∀ z ∈ xs, P z) → addL c hs m xs = addL c' hs m xs
  | [], _, _, _, _ => rfl
  | x :: xs, hs, m, hp, hx => by
    rw [addL, addL, addOne_on h hp m (hx _ List.mem_cons_self)]
    refine addL_on h xs _ _ (fun z hz => ?_) (fun z hz => hx z (List.mem_cons_of_mem _ hz))
    rcases List.mem_append.1 ((addOne_perm hs m x).mem_iff.1 hz) with hz | hz
    · exact hp z hz
    · rw [List.mem_singleton] at hz
      subst hz
      exact hx _ List.mem_cons_self
theorem takeL_on (h : ∀ x y, P x → P y → c x y = c' x y) {hs : List (Held ByteArray)} (hp : ∀ z ∈ hs, P z.1) : takeL c hs = takeL c' hs := by
  unfold takeL
  split
  · rename_i z hz
    refine downL_on h _ _ _ (fun u hu => ?_)
    rcases List.mem_or_eq_of_mem_set (List.mem_of_mem_take hu) with hu | rfl
    · exact hp u hu
    · exact hp _ (List.mem_of_getElem? hz)
  · rfl
theorem takeL_P {hs : List (Held ByteArray)} (hp : ∀ z ∈ hs, P z.1) : ∀ z ∈ takeL c hs, P z.1 := by
  cases hs with
  | nil => intro z hz; simp [takeL] at hz
  | cons x hr => exact fun z hz => hp z (List.mem_cons_of_mem _ (takeL_perm.mem_iff.1 hz))
theorem drainL_on (h : ∀ x y, P x → P y → c x y = c' x y) : ∀ (n : Nat) (hs : List (Held ByteArray)), (∀ z ∈ hs, P z.1) → drainL c n hs = drainL c' n hs
  | 0, _, _ => rfl
  | n + 1, [], _ => rfl
  | n + 1, x :: hr, hp => by
    rw [drainL, drainL, takeL_on h hp, drainL_on h n _ (takeL_P hp)]
end
end Go.Proofs.Ytnofckgnnpmiiaa.Str

/- Strings by their length: byLength; Take of an empty bag of strings. -/
namespace Go.Proofs.Ytnofckgnnpmiiaa.Str
open Go.RowKit Go.Shelf
attribute [local go_sem ↓] Go.wp_at_zero Go.wp_at_succ

/-- what byLength answers -/
def cmpLen (x y : ByteArray) : Int := RowKit.wrap64 ((x.size : Int) - (y.size : Int))
/-- the difference that it means -/
def subLen (x y : ByteArray) : Int := (x.size : Int) - (y.size : Int)
theorem cmpLen_on (x y : ByteArray) (hx : x.size ≤ 1000000000) (hy : y.size ≤ 1000000000) : cmpLen x y = subLen x y := IntWalk.wrap64_in _ ⟨by omega, by omega⟩
theorem subLen_keyed : Keyed subLen (fun x => (x.size : Int)) := ⟨fun x y => by unfold subLen; omega, fun x y => by unfold subLen; omega⟩

set_option maxRecDepth 100000 in
theorem byLength_ok (x y : ByteArray) (w : World) : Calls Try.prog 27 #[.string x, .string y] w (fun e w' => e = .returned (.int .i64 (cmpLen x y)) ∧ w' = w) := by
  go_enter Try.func27, Try.ntmps27
  go_wp2_with (fail)
  go_ret
  exact ⟨rfl, rfl⟩
theorem byLength_cmp : CmpOk Try.prog ES (.func (.func 27) #[] #[]) cmpLen 0 (fun _ => False) (fun _ _ => True) :=
  ⟨⟨27, #[], #[], rfl, fun args w => enters_of Try.func27 (by kernel_rfl) rfl args w, fun n w x y _ => (byLength_ok x y w).mono fun e w' ⟨h1, h2⟩ => ⟨h1, trivial, by rw [h2]; exact Keep.refl _ _⟩⟩, fun _ _ _ _ _ => trivial, fun _ h => h.elim⟩

set_option maxRecDepth 100000 in
theorem take_empty {k : Nat} {first cap : Array Value} {w : World} {b : Nat} {A : Option Addr} {c m : Nat} (h : Bg w b (.func (.func k) first cap) A c [] m) :
    Calls Try.prog 31 #[.pointer (some ⟨b, 0, none⟩)] w (fun e w' => e = .returned (.tuple #[.string ⟨#[]⟩, .bool false]) ∧ w' = w) := by
  have HT := Lib.hid (there_ok k first cap b w h.cmp)
  have h1 := h.heap
  simp only [List.length_nil] at h1
  clear h
  go_enter Try.func31, Try.ntmps31
  go_wp2_with (go_at_call 64; go_must (refine HT.out.mono ?_); rintro e w2 ⟨rfl, rfl⟩)
  go_ret2
  exact ⟨rfl, rfl⟩
end Go.Proofs.Ytnofckgnnpmiiaa.Str

/- What OrderTexts compares: strings by their length and Items of (length, place). Plain Lean. -/
namespace Go.Proofs.Ytnofckgnnpmiiaa
section
variable {α β : Type} {κ : α → Int} {κ' : β → Int}
theorem Sorts.map_ {xs zs : List α} {f : α → β} (d : Int) (h : Sorts κ xs zs) (hf : ∀ a ∈ xs, κ a = κ' (f a) + d) : Sorts κ' (xs.map f) (zs.map f) := by
  refine ⟨?_, fun v => ?_⟩
  · rw [List.pairwise_map]
    refine h.up.imp_of_mem (fun {a b} ha hb hab => ?_)
    have h1 := hf a ((h.mem a).1 ha)
    have h2 := hf b ((h.mem b).1 hb)
    omega
  · rw [List.filter_map, List.filter_map]
    congr 1
    have e0 : ∀ a ∈ xs, (κ' (f a) == v) = (κ a == v + d) := fun a ha => by
      have := hf a ha
      rw [Bool.eq_iff_iff, beq_iff_eq, beq_iff_eq]
      omega
    have e1 : zs.filter ((fun a => κ' a == v) ∘ f) = zs.filter (fun a => κ a == v + d) := List.filter_congr (fun a ha => e0 a ((h.mem a).1 ha))
    have e2 : xs.filter ((fun a => κ' a == v) ∘ f) = xs.filter (fun a => κ a == v + d) := List.filter_congr (fun a ha => e0 a ha)
    rw [e1, e2]
    exact h.same (v + d)
end
namespace Str
/-- the Items of (length, place) -/
def lenTo (l : List ByteArray) (n : Nat) : List Item := (List.range n).map fun i : Nat => (match l[i]? with | some s => (s.size : Int) | none => 0, (i : Int))
theorem lenTo_len (l : List ByteArray) (n : Nat) : (lenTo l n).length = n := by simp [lenTo]
theorem lenTo_succ (l : List ByteArray) (n : Nat) (s : ByteArray) (h : l[n]? = some s) : lenTo l (n + 1) = lenTo l n ++ [((s.size : Int), (n : Int))] := by
  simp [lenTo, List.range_succ, h]
theorem lenTo_get (l : List ByteArray) (i : Nat) (s : ByteArray) (h : l[i]? = some s) : (lenTo l l.length)[i]? = some ((s.size : Int), (i : Int)) := by
  have hi := (List.getElem?_eq_some_iff.1 h).1
  simp [lenTo, hi]
  obtain ⟨_, rfl⟩ := List.getElem?_eq_some_iff.1 h
  rfl
theorem lenTo_mem (l : List ByteArray) (z : Item) (h : z ∈ lenTo l l.length) : ∃ (i : Nat) (s : ByteArray), l[i]? = some s ∧ z = ((s.size : Int), (i : Int)) := by
  obtain ⟨i, hi, e⟩ := List.mem_iff_getElem.1 h
  rw [lenTo_len] at hi
  have h1 : l[i]? = some l[i] := List.getElem?_eq_getElem hi
  refine ⟨i, l[i], h1, ?_⟩
  have h2 := lenTo_get l i _ h1
  rw [← e]
  exact (List.getElem?_eq_some_iff.1 h2).2
/-- the string at an Item's place -/
def atNo (l : List ByteArray) (z : Item) : ByteArray := (l[z.2.toNat]?).getD ⟨#[]⟩
theorem lenTo_atNo (l : List ByteArray) : (lenTo l l.length).map (atNo l) = l := by
  refine List.ext_getElem? (fun i => ?_)
  rw [List.getElem?_map]
  by_cases hi : i < l.length
  · have h1 : l[i]? = some l[i] := List.getElem?_eq_getElem hi
    rw [lenTo_get l i _ h1, h1]
    simp [atNo, h1]
  · rw [List.getElem?_eq_none (by rw [lenTo_len]; omega), List.getElem?_eq_none (by omega)]
    rfl
/-- the strings in order are those at the places of the Items in order -/
theorem keyR_len (n : Nat) (h : n ≤ 1000000000) : keyR 0 (n : Int) = (n : Int) + 9223372036854775808 := by
  unfold keyR
  rw [if_pos rfl]
  have e : ∀ z : Int, IntKind.u64.wrap z = z % 18446744073709551616 := fun z => by simp [IntKind.wrap, IntKind.signed, IntKind.bits]
  rw [e, e]
  omega
theorem want_got {l gs : List ByteArray} {want : List Item} (hs : ∀ s ∈ l, s.size ≤ 1000000000) (hw : Sorts (kap 0) (lenTo l l.length) want) (hg : Sorts (fun s : ByteArray => (s.size : Int)) l gs) : want.map (atNo l) = gs := by
  have h := hw.map_ (κ' := fun s : ByteArray => (s.size : Int)) (f := atNo l) 9223372036854775808 (fun z hz => by
    obtain ⟨i, s, hi, rfl⟩ := lenTo_mem l z hz
    show keyR 0 (s.size : Int) = _
    rw [keyR_len _ (hs s (List.mem_of_getElem? hi))]
    simp [atNo, hi])
  rw [lenTo_atNo] at h
  exact h.unique hg
theorem dup_texts (l : List ByteArray) (hs : ∀ s ∈ l, s.size ≤ 1000000000) (j : Nat) : dupAt (cmpR 0) (lenTo l l.length) j ↔ dupAt subLen l j := by
  have key : ∀ (i : Nat) (s : ByteArray), l[i]? = some s → (lenTo l l.length)[i]? = some ((s.size : Int), (i : Int)) := lenTo_get l
  constructor
  · rintro ⟨i, x, y, hij, hx, hy, hc⟩
    obtain ⟨i1, hi1⟩ := List.getElem?_eq_some_iff.1 hx
    obtain ⟨j1, hj1⟩ := List.getElem?_eq_some_iff.1 hy
    rw [lenTo_len] at i1 j1
    have h1 := key i _ (List.getElem?_eq_getElem i1)
    have h2 := key j _ (List.getElem?_eq_getElem j1)
    rw [h1] at hx
    rw [h2] at hy
    obtain rfl := Option.some.inj hx
    obtain rfl := Option.some.inj hy
    refine ⟨i, l[i], l[j], hij, List.getElem?_eq_getElem i1, List.getElem?_eq_getElem j1, ?_⟩
    have h3 := ((cmpR_keyed 0).eq _ _).1 hc
    dsimp only at h3
    rw [keyR_len _ (hs _ (List.getElem_mem _)), keyR_len _ (hs _ (List.getElem_mem _))] at h3
    exact (subLen_keyed.eq _ _).2 (by omega)
  · rintro ⟨i, x, y, hij, hx, hy, hc⟩
    refine ⟨i, _, _, hij, key i x hx, key j y hy, ((cmpR_keyed 0).eq _ _).2 ?_⟩
    have h3 := (subLen_keyed.eq _ _).1 hc
    dsimp only
    rw [keyR_len _ (hs _ (List.mem_of_getElem? hx)), keyR_len _ (hs _ (List.mem_of_getElem? hy))]
    omega
theorem tw_texts (l : List ByteArray) (hs : ∀ s ∈ l, s.size ≤ 1000000000) (k : Int) : TwSpec (cmpR 0) (lenTo l l.length) k ↔ TwSpec subLen l k := by
  unfold TwSpec
  simp only [dup_texts l hs]
end Str
end Go.Proofs.Ytnofckgnnpmiiaa

/- A bag of strings by their length: Add of a list, and the Takes one by one. -/
namespace Go.Proofs.Ytnofckgnnpmiiaa.Str
open Go.RowKit Go.Shelf

theorem heldFrom_mem : ∀ (xs : List ByteArray) (m : Int) (z : Held ByteArray), z ∈ heldFrom m xs → z.1 ∈ xs
  | [], _, _, h => by simp [heldFrom] at h
  | x :: xs, m, z, h => by
    rw [heldFrom] at h
    rcases List.mem_cons.1 h with rfl | h
    · exact List.mem_cons_self
    · exact List.mem_cons_of_mem _ (heldFrom_mem xs (m + 1) z h)

/-- the bag in block bb holds what is left of full behind the first i -/
def TI (bb L i : Nat) (full : List (Held ByteArray)) (w7 wr : World) : Prop :=
  ∃ A' ca' hs m, Bg wr bb (.func (.func 27) #[] #[]) A' ca' hs m ∧ (∀ a, A' = some a → bb < a.block) ∧ hs.length = L - i ∧ (∀ z ∈ hs, z.1.size ≤ 1000000000) ∧ drainL subLen (L - i) hs = full.drop i ∧ Keep (fun k => bb ≤ k) w7 wr

theorem add_texts (bb c L : Nat) (A : Option Addr) (l gs : List ByteArray) (w : World) (hL : l.length = L) (hl : L ≤ 100000000) (hz : ∀ s ∈ l, s.size ≤ 1000000000) (hg : Sorts (fun s : ByteArray => (s.size : Int)) l gs)
    (h : Bg w bb (.func (.func 27) #[] #[]) none 0 [] 0) (hx : Sl ES w A c l) (hA : ∀ a, A = some a → a.block < bb) :
    Calls Try.prog 30 #[.pointer (some ⟨bb, 0, none⟩), .slice A L c] w fun e w' => e = .returned (.tuple #[]) ∧ ∃ full : List (Held ByteArray), full.map (·.1) = gs ∧ TI bb L 0 full w w' := by
  subst hL
  have hbw : bb < w.heap.size := World.block_lt_of_cell? w _ h.cmp
  refine (add_ok byLength_cmp bb 0 0 l.length none A 0 c [] l w (Nat.zero_le _) h (Nat.zero_le _) (fun a h => by simp at h) hx (fun a ha hm => ?_) trivial (by simp only [List.length_nil]; omega) (by omega) (by simp only [List.length_nil, Nat.zero_add]; exact Nat.le_of_lt Nat.lt_two_pow_self)).mono ?_
  · have h1 := hA a ha
    rcases hm with hm | hm | ⟨a', ha', _⟩
    · exact hm
    · omega
    · simp at ha'
  · rintro e w' ⟨he, A', ca', h1, h2, h3, _⟩
    have hon : addL cmpLen [] ((0 : Nat) : Int) l = addL subLen [] ((0 : Nat) : Int) l := addL_on (P := fun s => s.size ≤ 1000000000) cmpLen_on l [] _ (by simp) hz
    rw [hon] at h1
    have hp : (addL subLen [] ((0 : Nat) : Int) l).Perm (heldFrom ((0 : Nat) : Int) l) := addL_perm (c := subLen) l [] _
    have hh : IsHeap subLen (addL subLen [] ((0 : Nat) : Int) l) := addL_heap subLen_keyed l [] _ IsHeap.nil
    have hn : (addL subLen [] ((0 : Nat) : Int) l).length = l.length := by rw [addL_len]; simp
    refine ⟨he, drainL subLen l.length (addL subLen [] ((0 : Nat) : Int) l), (drain_sorts subLen_keyed hh hp l.length hn).unique hg, A', ca', _, _, h1, fun a ha => ?_, by rw [hn]; rfl, fun z hz' => hz _ (heldFrom_mem l _ z (hp.mem_iff.1 hz')), by simp, h3.mono (fun k _ hk => ?_)⟩
    · rcases h2 a ha with ⟨a0, h0, _⟩ | h4
      · simp at h0
      · omega
    · rcases hk with hk | hk | ⟨a0, h0, _⟩
      · exact hk.elim
      · show bb ≤ k
        omega
      · simp at h0

theorem TI.take {bb L i : Nat} {full : List (Held ByteArray)} {w7 w : World} (h : TI bb L i full w7 w) (hi : i < L) (hl : L ≤ 100000000) :
    Calls Try.prog 31 #[.pointer (some ⟨bb, 0, none⟩)] w fun e w' => ∃ s : ByteArray, (full.map (·.1))[i]? = some s ∧ e = .returned (.tuple #[.string s, .bool true]) ∧ TI bb L (i + 1) full w7 w' := by
  obtain ⟨A', ca', hs, m, h1, h2, h3, h4, h5, h6⟩ := h
  refine (take_ok byLength_cmp bb 0 m hs.length A' ca' hs w (Nat.zero_le _) h1 (Nat.zero_le _) (fun _ _ => Nat.zero_le _) (by omega) trivial (by omega) (Nat.le_of_lt Nat.lt_two_pow_self)).mono ?_
  rintro e w' ⟨⟨h0, hr, e0, he⟩, g1, g2, _⟩
  have hon : takeL cmpLen hs = takeL subLen hs := takeL_on (P := fun s => s.size ≤ 1000000000) cmpLen_on h4
  rw [hon] at g1
  have h5' := h5
  rw [e0, show L - i = (L - (i + 1)) + 1 by omega, drainL] at h5'
  have ht : (takeL subLen hs).length = L - (i + 1) := by
    rw [e0, takeL_lenH]
    rw [e0, List.length_cons] at h3
    omega
  refine ⟨h0.1, ?_, he, A', ca', _, m, g1, h2, ht, takeL_P (P := fun s => s.size ≤ 1000000000) h4, ?_, h6.then_ (g2.mono (fun k _ hk => ?_))⟩
  · have h7 : full[i]? = some h0 := by
      have := congrArg (fun l => l[0]?) h5'
      simp only [List.getElem?_cons_zero, List.getElem?_drop, Nat.add_zero] at this
      exact this.symm
    rw [List.getElem?_map, h7]
    rfl
  · have h8 := congrArg List.tail h5'
    rw [List.tail_cons, List.tail_drop] at h8
    rw [e0]
    exact h8
  · rcases hk with hk | hk | ⟨a0, h0', e'⟩
    · exact hk.elim
    · show bb ≤ k
      omega
    · have := h2 a0 h0'
      show bb ≤ k
      omega
theorem TI.keep {bb L i : Nat} {full : List (Held ByteArray)} {w7 w w' : World} (h : TI bb L i full w7 w) (k : Keep (fun _ => False) w w') : TI bb L i full w7 w' := by
  obtain ⟨A', ca', hs, m, h1, h2, h3, h4, h5, h6⟩ := h
  exact ⟨A', ca', hs, m, h1.keep k (fun h => h) (fun ⟨_, _, h⟩ => h), h2, h3, h4, h5, h6.then_ (k.mono (fun _ _ h => h.elim))⟩
theorem TI.kept {bb L i : Nat} {full : List (Held ByteArray)} {w7 w : World} (h : TI bb L i full w7 w) : Keep (fun k => bb ≤ k) w7 w := by
  obtain ⟨A', ca', hs, m, h1, h2, h3, h4, h5, h6⟩ := h
  exact h6
theorem TI.done {bb L : Nat} {full : List (Held ByteArray)} {w7 w : World} (h : TI bb L L full w7 w) :
    Calls Try.prog 31 #[.pointer (some ⟨bb, 0, none⟩)] w fun e w' => e = .returned (.tuple #[.string ⟨#[]⟩, .bool false]) ∧ w' = w := by
  obtain ⟨A', ca', hs, m, h1, h2, h3, h4, h5, h6⟩ := h
  have : hs = [] := List.eq_nil_of_length_eq_zero (by omega)
  subst this
  exact take_empty h1
end Go.Proofs.Ytnofckgnnpmiiaa.Str

namespace Go.Proofs.Ytnofckgnnpmiiaa
open Go.RowKit
theorem Sl.lt {α : Type} {E : El α} {w : World} {A : Option Addr} {c : Nat} {xs : List α} (h : Sl E w A c xs) (hx : xs ≠ []) : ∀ a, A = some a → a.block < w.heap.size := fun a ha => by
  obtain ⟨b, o, e, hr⟩ := h.at_ hx
  rw [e] at ha
  obtain rfl := Option.some.inj ha
  have hpos : 0 < (E.flat xs).length := by
    rw [E.flat_len]
    exact Nat.mul_pos (List.length_pos_iff.2 hx) E.pos
  exact World.block_lt_of_cell? w _ (hr 0 _ (List.getElem?_eq_getElem hpos))

end Go.Proofs.Ytnofckgnnpmiiaa

/- OrderTexts answers true, and keeps all memory that there was. -/
namespace Go.Proofs.Ytnofckgnnpmiiaa.Str
open Go.RowKit Go.Shelf
attribute [local go_sem ↓] Go.wp_at_zero Go.wp_at_succ

theorem found_texts {gs : List ByteArray} {i : Nat} {s : ByteArray} (hz : ∀ s ∈ gs, s.size ≤ 1000000000) (hup : gs.Pairwise (fun a b => (a.size : Int) ≤ (b.size : Int))) (hi : gs[i]? = some s) :
    ∃ n y, bsearch cmpLen s gs 0 gs.length = n ∧ n < gs.length ∧ gs[n]? = some y ∧ y.size = s.size ∧ alikeAt cmpLen s gs n = true := by
  have hs : s.size ≤ 1000000000 := hz s (List.mem_of_getElem? hi)
  obtain ⟨il, ie⟩ := List.getElem?_eq_some_iff.1 hi
  have hf := bsearch_all subLen_keyed s gs hup
  rw [← bsearch_on (P := fun s => s.size ≤ 1000000000) cmpLen_on hz hs] at hf
  generalize bsearch cmpLen s gs 0 gs.length = n at hf
  have hn : n ≤ i := by
    rcases Nat.lt_or_ge i n with h | h
    · have h1 := hf.below i s h hi
      unfold subLen at h1
      omega
    · exact h
  have hy : gs[n]? = some (gs[n]'(by omega)) := List.getElem?_eq_getElem _
  have h2 := hf.above n _ (Nat.le_refl _) hy
  have h3 : (gs[n]'(by omega)).size = s.size := by
    unfold subLen at h2
    have h4 : ((gs[n]'(by omega)).size : Int) ≤ (s.size : Int) := by
      rcases Nat.lt_or_ge n i with h | h
      · have := List.pairwise_iff_getElem.1 hup n i (by omega) il h
        rw [ie] at this
        exact this
      · have : n = i := by omega
        subst this
        rw [ie]
        exact Int.le_refl _
    omega
  refine ⟨n, _, rfl, by omega, hy, h3, ?_⟩
  unfold alikeAt
  rw [hy]
  show (cmpLen _ s == 0) = true
  rw [cmpLen_on _ _ (hz _ (List.getElem_mem _)) hs]
  unfold subLen
  rw [h3]
  simp

set_option maxRecDepth 100000 in
set_option maxHeartbeats 16000000 in
theorem texts_ok (A : Option Addr) (c : Nat) (l : List ByteArray) (w : World) (h : Sl ES w A c l) (hl : l.length ≤ 100000000) (hz : ∀ s ∈ l, s.size ≤ 1000000000) (hb : ∀ a, A = some a → a.block < w.heap.size) :
    Calls Try.prog 6 #[.slice A l.length c] w (fun e w' => e = .returned (.bool true) ∧ Keep nob w w') := by
  have H := Lib.hid h
  have HSZ := Lib.hid hz
  have HB := Lib.hid hb
  have hlc := h.le
  have hcc := h.cap
  obtain ⟨L, HL⟩ : ∃ L, Hid (l.length = L) := ⟨_, Lib.hid rfl⟩
  rw [HL.out] at hlc ⊢
  have HLL : Hid (L ≤ 100000000) := by unfold Hid; rw [← HL.out]; exact hl
  have hLb : (L : Int) ≤ 100000000 := by have := HLL.out; omega
  clear h hl hz hb
  go_enter Try.func6, Try.ntmps6
  go_wp2_with (fail)
  go_loopw [3, 4] (fun u5 u6 wr => ∃ (i : Nat) (Aq : Option Addr) (cq : Nat), i ≤ L ∧ u6 = .int .i64 (i : Int) ∧ u5 = .slice Aq i cq ∧ Hid (Gro w wr Aq cq (lenTo l i))) (fun _ u6 _ => ((L : Int) - intOf u6).toNat)
  case atStart => exact ⟨0, none, 0, Nat.zero_le _, rfl, rfl, Gro.start w⟩
  case round =>
    obtain ⟨i, Aq, cq, hi, rfl, rfl, HG⟩ := hrel
    by_cases hlt : i < L
    · have hi0 : (0 : Int) ≤ (i : Int) := by omega
      have hi1 : (i : Int) < (L : Int) := by omega
      obtain ⟨b1, o1, rfl, hx⟩ := (H.out.keep HG.out.keep (nobIn _)).elem (i := i) (by rw [HL.out]; exact hlt)
      obtain ⟨x, HX⟩ : ∃ x, Hid (l[i]'(by rw [HL.out]; exact hlt) = x) := ⟨_, Lib.hid rfl⟩
      have HXE : Hid (l[i]? = some x) := by unfold Hid; rw [← HX.out]; exact List.getElem?_eq_getElem _
      rw [HX.out] at hx
      have hx1 := hx 0 _ rfl
      simp only [ES, Nat.add_zero, Nat.mul_one] at hx1
      clear hx
      have hb16 : (i + 1) * 16 ≤ 140737488355328 := by omega
      obtain ⟨w3, HW3⟩ : ∃ w3, Hid (w3 = wr.alloc (.cells #[.int .i64 (x.size : Int), .int .i64 (i : Int)] 27)) := ⟨_, Lib.hid rfl⟩
      have HK3 : Hid (Keep nob wr w3) := by rw [HW3.out]; exact (Keep.refl _ wr).alloc _
      have HS3 : Hid (Sl EI w3 (some ⟨wr.heap.size, 0, none⟩) 1 [(((x.size : Int), (i : Int)) : Item)]) := by rw [HW3.out]; exact Sl.one EI wr _ _ 27 rfl
      have HG3 : Hid (Gro w w3 Aq cq (lenTo l i)) := HG.out.kept HK3.out
      have HNL := Lib.hid (lenTo_len l i)
      have HE3 := Lib.hid HW3.out.symm
      go_wp2_with (at_builtin; rw [HE3.out]; refine wpList_append_two EI rfl _ _ 22 rfl 27 _ 16 Try.underlying22 info27 rfl Aq i cq rfl (lenTo l i) HNL.out HG3.out.ow (some ⟨wr.heap.size, 0, none⟩) 1 1 rfl [(((x.size : Int), (i : Int)) : Item)] rfl HS3.out (by decide) hb16 (by omega) ?_; intro A' c' w4 hap; have HAP := Lib.hid hap; clear hap)
      have HG4 : Hid (Gro w w4 A' c' (lenTo l (i + 1))) := by
        rw [lenTo_succ l i x HXE.out]
        exact HG3.out.next HAP.out
      clear HAP HG3 HS3 HK3 HE3 HW3 HNL
      go_wp2_with (fail)
      exact ⟨⟨i + 1, A', c', hlt, by go_num, rfl, HG4⟩, by simp [intOf]; omega⟩
    · have hiL : i = L := by omega
      subst i
      have HIT : Hid (Sl EI wr Aq cq (lenTo l L)) := HG.out.ow.sl
      have HKr : Hid (Keep nob w wr) := HG.out.keep
      have HIL : Hid ((lenTo l L).length = L) := lenTo_len l L
      clear HG
      have HSO : Hid (∀ w', Keep nob wr w' → Calls Try.prog 26 #[.slice A L c, .func (.func 27) #[] #[]] w' fun e w'' => ∃ A' c' gs, e = .returned (.slice A' L c') ∧ gs.length = L ∧ Sorts (fun s : ByteArray => (s.size : Int)) l gs ∧ Ow ES w'' A' c' gs ∧ (∀ a, A' = some a → w'.heap.size ≤ a.block) ∧ Keep nob w' w'') := fun w' hk => by
        have h := sort_S byLength_cmp A c 0 l w' (Nat.zero_le _) ((H.out.keep HKr.out (nobIn _)).keep hk (nobIn _)) (by have := HLL.out; have := HL.out; omega) trivial
        rw [HL.out] at h
        refine h.mono ?_
        rintro e w'' ⟨A', c', p, h1, h2, h3, _, h5, h6, _⟩
        have hon : stepsL cmpLen l p = stepsL subLen l p := stepsL_on (P := fun s => s.size ≤ 1000000000) cmpLen_on HSZ.out p
        rw [HL.out] at h1
        exact ⟨A', c', _, h1, by rw [stepsL_len, HL.out], by rw [hon]; exact stepsL_sorts subLen_keyed l p h3, h2, h5, h6⟩
      go_upto_region 8 with (first
        | (go_at_call 13; go_must (refine (refsort_ok 0 Aq cq L (lenTo l L) wr HIL.out HIT.out (by have := HLL.out; omega)).mono ?_); rintro e w5 ⟨Aw, cw, want, rfl, hwl, hws, hwo, -, hk⟩; have HWL := Lib.hid hwl; have HWS := Lib.hid hws; have HWO := Lib.hid hwo; have HK5 := Lib.hid hk; clear hwl hws hwo hk)
        | (go_at_call 26; go_must (refine (HSO.out w5 HK5.out).mono ?_); rintro e w6 ⟨Ag, cg, gs, rfl, hgl, hgs, hgo, -, hk⟩; have HGL := Lib.hid hgl; have HGS := Lib.hid hgs; have HGO := Lib.hid hgo; have HK6 := Lib.hid hk; clear hgl hgs hgo hk))
      have HK7 : Hid (Keep nob w w6) := HKr.out.then_ (HK5.out.then_ HK6.out)
      obtain ⟨bb, HBB⟩ : ∃ bb, Hid (w6.heap.size = bb) := ⟨_, Lib.hid rfl⟩
      obtain ⟨w7, HW7⟩ : ∃ w7, Hid (w6.alloc (.cells #[.func (.func 27) #[] #[], .slice none 0 0, .int .i64 0] 105) = w7) := ⟨_, Lib.hid rfl⟩
      go_upto_region 9 with (go_at_call 28; go_must (refine (new_ok 27 #[] #[] w6).mono ?_); rintro e wn ⟨rfl, hw⟩; rw [HW7.out] at hw; replace hw := hw.symm; subst hw)
      rw [HBB.out]
      have HK67 : Hid (Keep nob w6 w7) := by unfold Hid; rw [← HW7.out]; exact (Keep.refl _ w6).alloc _
      have HBG7 : Hid (Bg w7 bb (.func (.func 27) #[] #[]) none 0 [] 0) := by
        unfold Hid
        rw [← HW7.out, ← HBB.out]
        exact ⟨by simp, by simp, by simp, there_alloc_new w6 _ _ 3 (Nat.le_refl _), Ow.nil_ EHS _ none, fun a h => by simp at h, fun a h => by simp at h⟩
      have HAB : Hid (∀ a, A = some a → a.block < bb) := fun a ha => by have h1 := HB.out a ha; have h2 := HK7.out.size; have h3 := HBB.out; omega
      have HT1 : Hid (∀ w', Keep nob w7 w' → Calls Try.prog 29 #[.slice A L c, .func (.func 27) #[] #[]] w' fun e w'' => ∃ k, e = .returned (.int .i64 k) ∧ TwSpec subLen l k ∧ Keep nob w' w'') := fun w' hk => by
        have h := twice_any byLength_cmp A c 0 l w' (Nat.zero_le _) ((H.out.keep (HK7.out.then_ HK67.out) (nobIn _)).keep hk (nobIn _)) (nobIn _) (by have := HLL.out; have := HL.out; omega) trivial
        rw [HL.out] at h
        refine h.mono ?_
        rintro e w'' ⟨p, h1, h3, _, h6, _⟩
        have hon : byPlace cmpLen l = byPlace subLen l := byPlace_on (P := fun s => s.size ≤ 1000000000) cmpLen_on HSZ.out
        rw [hon] at h1
        exact ⟨_, h1, twice_spec subLen_keyed l p h3, h6⟩
      have HT2 : Hid (∀ w', Keep nob w7 w' → Calls Try.prog 25 #[.slice Aq L cq, .int .i64 0] w' fun e w'' => ∃ k, e = .returned (.int .i64 k) ∧ TwSpec subLen l k ∧ Keep nob w' w'') := fun w' hk =>
        (reftwice_ok 0 Aq cq L (lenTo l L) w' HIL.out ((HIT.out.keep ((HK5.out.then_ HK6.out).then_ HK67.out) (nobIn _)).keep hk (nobIn _)) (by have := HLL.out; omega)).mono fun e w'' ⟨k, h1, h2, h3⟩ => ⟨k, h1, by rw [← HL.out] at h2; exact (tw_texts l HSZ.out k).1 h2, h3⟩
      have HC : Hid (Keep nob w7 w7) := Keep.refl _ _
      go_upto_region 11 with (first
        | (go_at_call 29; go_must (refine (HT1.out _ HC.out).mono ?_); rintro e w8 ⟨kk, rfl, hs, hk⟩; have HTS := Lib.hid hs; replace HC := Lib.hid (HC.out.then_ hk); clear hs hk)
        | (go_at_call 25; go_must (refine (HT2.out _ HC.out).mono ?_); rintro e w9 ⟨k2, rfl, hs, hk⟩; obtain rfl := TwSpec.unique hs HTS.out; replace HC := Lib.hid (HC.out.then_ hk); clear hs hk))
      have HBG9 : Hid (Bg w9 bb (.func (.func 27) #[] #[]) none 0 [] 0) := HBG7.out.keep HC.out (fun h => h) (nobIn _)
      have HAD : Hid (Calls Try.prog 30 #[.pointer (some ⟨bb, 0, none⟩), .slice A L c] w9 fun e w' => e = .returned (.tuple #[]) ∧ ∃ full : List (Held ByteArray), full.map (·.1) = gs ∧ TI bb L 0 full w9 w') :=
        add_texts bb c L A l gs w9 HL.out HLL.out HSZ.out HGS.out HBG9.out ((H.out.keep (HK7.out.then_ HK67.out) (nobIn _)).keep HC.out (nobIn _)) HAB.out
      go_upto_region 12 with (go_at_call 30; go_must (refine HAD.out.mono ?_); rintro e w10 ⟨rfl, full, hfu, hti⟩; have HFU := Lib.hid hfu; have HTI := Lib.hid hti; clear hfu hti)
      go_wp2_with (fail)
      have HWG : Hid (want.map (atNo l) = gs) := by
        have h := HWS.out
        rw [← HL.out] at h
        exact want_got HSZ.out h HGS.out
      have HWM : Hid (∀ z ∈ want, z ∈ lenTo l L) := fun z hz => (HWS.out.mem z).1 hz
      have HK69 : Hid (Keep nob w6 w9) := HK67.out.then_ HC.out
      have HSLS : Hid (∀ w', Keep (fun k => bb ≤ k) w9 w' → Sl ES w' Ag cg gs ∧ Sl EI w' Aw cw want ∧ Sl ES w' A c l) := fun w' hk =>
        ⟨(HGO.out.sl.keep HK69.out (nobIn _)).keep2 hk (fun hne ⟨a, ha, e⟩ => by have h1 := HGO.out.sl.lt hne a ha; have h2 := HBB.out; have h3 : bb ≤ a.block := e; omega),
          ((HWO.out.sl.keep HK6.out (nobIn _)).keep HK69.out (nobIn _)).keep2 hk (fun hne ⟨a, ha, e⟩ => by have h1 := (HWO.out.sl.keep HK6.out (nobIn _)).lt hne a ha; have h2 := HBB.out; have h3 : bb ≤ a.block := e; omega),
          ((H.out.keep (HK7.out.then_ HK67.out) (nobIn _)).keep HC.out (nobIn _)).keep2 hk (fun hne ⟨a, ha, e⟩ => by have h1 := HAB.out a ha; have h3 : bb ≤ a.block := e; omega)⟩
      have HUP : Hid (gs.Pairwise (fun a b => (a.size : Int) ≤ (b.size : Int))) := HGS.out.up
      have HGZ : Hid (∀ s ∈ gs, s.size ≤ 1000000000) := fun s hs => HSZ.out s ((HGS.out.mem s).1 hs)
      clear HAD HBG9 HT1 HT2 HSO HTS HIT HGS HWS HBG7
      go_loopw [8] (fun u8 wr => ∃ i : Nat, u8 = .int .i64 (i : Int) ∧ i ≤ L ∧ Hid (TI bb L i full w9 wr)) (fun u8 _ => ((L : Int) - intOf u8).toNat)
      case atStart => exact ⟨0, rfl, Nat.zero_le _, HTI⟩
      case round =>
        obtain ⟨i, rfl, hi, HR⟩ := hrel
        by_cases hlt : i < L
        · have hi0 : (0 : Int) ≤ (i : Int) := by omega
          have hi1 : (i : Int) < (L : Int) := by omega
          obtain ⟨s, HGI⟩ : ∃ s, Hid (gs[i]? = some s) := ⟨_, List.getElem?_eq_getElem (by rw [HGL.out]; exact hlt)⟩
          obtain ⟨n, y, hn, hnl, hny, hys, hal⟩ := found_texts HGZ.out HUP.out HGI.out
          have HNY := Lib.hid hny
          rw [HGL.out] at hnl
          have HTK : Hid (Calls Try.prog 31 #[.pointer (some ⟨bb, 0, none⟩)] wr fun e w' => e = .returned (.tuple #[.string s, .bool true]) ∧ TI bb L (i + 1) full w9 w') :=
            (HR.out.take hlt HLL.out).mono fun e w' ⟨s', h1, h2, h3⟩ => by
              rw [HFU.out, HGI.out] at h1
              obtain rfl := Option.some.inj h1
              exact ⟨h2, h3⟩
          have HSE : Hid (∀ w', Keep (fun k => bb ≤ k) w9 w' → Calls Try.prog 32 #[.slice Ag L cg, .string s, .func (.func 27) #[] #[]] w' fun e w'' => e = .returned (.tuple #[.int .i64 (n : Int), .bool true]) ∧ Keep nob w' w'') := fun w' hk => by
            have h := search_any byLength_cmp Ag cg 0 gs s w' (Nat.zero_le _) (HSLS.out w' hk).1 (nobIn _) (by have := HLL.out; have := HGL.out; omega) trivial
            rw [HGL.out] at h
            refine h.mono ?_
            rintro e w'' ⟨h1, _, h2, _⟩
            rw [hn, hal] at h1
            exact ⟨h1, h2⟩
          have HYS := Lib.hid hys
          clear hn hny hal hys
          go_upto_region 17 with (first
            | (go_at_call 31; go_must (refine HTK.out.mono ?_); rintro e w2 ⟨rfl, ht⟩; have HT := Lib.hid ht; clear ht)
            | (go_at_call 32; go_must (refine (HSE.out w2 HT.out.kept).mono ?_); rintro e w3 ⟨rfl, hk⟩; have HK3 := Lib.hid hk; clear hk))
          have HT3 : Hid (TI bb L (i + 1) full w9 w3) := HT.out.keep HK3.out
          obtain ⟨wi, HWI⟩ : ∃ z, Hid (want[i]? = some z) := ⟨_, List.getElem?_eq_getElem (by rw [HWL.out]; exact hlt)⟩
          obtain ⟨j, HJ⟩ : ∃ j : Nat, Hid (wi = ((s.size : Int), (j : Int)) ∧ l[j]? = some s) := by
            obtain ⟨hil, hie⟩ := List.getElem?_eq_some_iff.1 HWI.out
            have hm : wi ∈ lenTo l l.length := by
              rw [HL.out]
              exact HWM.out wi (List.mem_of_getElem? HWI.out)
            obtain ⟨j, s', hj, rfl⟩ := lenTo_mem l wi hm
            have h1 : (want.map (atNo l))[i]? = some (atNo l ((s'.size : Int), (j : Int))) := by rw [List.getElem?_map, HWI.out]; rfl
            rw [HWG.out, HGI.out] at h1
            have h2 : s = s' := by
              have := Option.some.inj h1
              rw [this]
              simp [atNo, hj]
            subst h2
            exact ⟨j, rfl, hj⟩
          have HJL : Hid (j < L) := by unfold Hid; rw [← HL.out]; exact (List.getElem?_eq_some_iff.1 HJ.out.2).1
          have hj0 : (0 : Int) ≤ (j : Int) := by omega
          have hj1 : (j : Int) < (L : Int) := by have := HJL.out; omega
          have hn0 : (0 : Int) ≤ (n : Int) := by omega
          have hn1 : (n : Int) < (L : Int) := by omega
          have k1 : decide ((n : Int) < 0) = false := decide_eq_false (by omega)
          have k2 : decide ((L : Int) ≤ (n : Int)) = false := decide_eq_false (by omega)
          have k3 : decide (L ≤ n) = false := decide_eq_false (by omega)
          have hS := HSLS.out w3 HT3.out.kept
          obtain ⟨bg, og, hAg, hx⟩ := hS.1.elem (i := i) (by rw [HGL.out]; exact hlt)
          obtain ⟨b', o', e', hx2⟩ := hS.1.elem (i := n) (by rw [HGL.out]; exact hnl)
          subst hAg
          simp only [Option.some.injEq, Addr.mk.injEq, and_true] at e'
          obtain ⟨rfl, rfl⟩ := e'
          obtain ⟨bw, ow, hAw, hx3⟩ := hS.2.1.elem (i := i) (by rw [HWL.out]; exact hlt)
          subst hAw
          obtain ⟨bl, ol, hAl, hx4⟩ := hS.2.2.elem (i := j) (by rw [HL.out]; exact HJL.out)
          subst hAl
          rw [(List.getElem?_eq_some_iff.1 HGI.out).2] at hx
          rw [(List.getElem?_eq_some_iff.1 HNY.out).2] at hx2
          rw [(List.getElem?_eq_some_iff.1 HWI.out).2, HJ.out.1] at hx3
          rw [(List.getElem?_eq_some_iff.1 HJ.out.2).2] at hx4
          have y1 := hx 0 _ rfl
          have y2 := hx2 0 _ rfl
          have y3 := hx3 1 _ rfl
          have y4 := hx4 0 _ rfl
          simp only [ES, EI, Nat.add_zero, Nat.mul_one] at y1 y2 y3 y4
          have HF : Hid (∀ w', Keep (fun _ => False) w3 w' → w'.cell? ⟨bg, og + i, none⟩ = some (.string s) ∧ w'.cell? ⟨bg, og + n, none⟩ = some (.string y) ∧ w'.cell? ⟨bw, ow + i * 2 + 1, none⟩ = some (.int .i64 (j : Int)) ∧ w'.cell? ⟨bl, ol + j, none⟩ = some (.string s)) := fun w' hk =>
            ⟨hk.cell y1 (fun h => h), hk.cell y2 (fun h => h), hk.cell y3 (fun h => h), hk.cell y4 (fun h => h)⟩
          have hcg := hS.1.le
          have hcg2 := hS.1.cap
          have hcw := hS.2.1.le
          have hcw2 := hS.2.1.cap
          rw [HGL.out] at hcg
          rw [HWL.out] at hcw
          have hys : (y.size : Int) = (s.size : Int) := by rw [HYS.out]
          clear hS hx hx2 hx3 hx4 y1 y2 y3 y4
          refine wp_region_kept (by kernel_rfl) (by kernel_rfl) (QV.out ?_)
          repeat (first
            | (refine kq_skip (by rfl) (fun K hK => ?_); go_simp; refine hK _ ?_; clear hK K)
            | (refine kq_want (by rfl) (fun K hK => ?_); first
                | (refine BigFrame.quiet_move _ rfl ?_; go_simp; refine hK _ ?_; clear hK K)
                | (refine kq_still ?_ (fun w' hw' => ?_) ?_; rotate_left; (obtain ⟨c1', c2', c3', c4'⟩ := HF.out w' hw'; go_simp; first | done | exact rfl); go_simp; refine hK _ ?_; clear hK K)))
          refine ⟨wpQuiet_nil ?_⟩
          intro wq hkq
          have HTQ := Lib.hid (HT3.out.keep hkq)
          clear hkq
          go_wp2_with (fail)
          go_roundw
          case rel => exact ⟨i + 1, by go_num, hlt, HTQ⟩
          case measure => simp [intOf]; omega
        · have hiL : i = L := by omega
          subst i
          have HDN := Lib.hid HR.out.done
          have HKE : Hid (Keep nob w wr) := ((HK7.out.then_ HK67.out).then_ HC.out).trans HR.out.kept (fun k h1 h2 => by have h3 : bb ≤ k := h2; have h4 := HBB.out; have h5 := HK7.out.size; omega)
          go_wp2_with (first
            | (go_at_call 31; go_must (refine HDN.out.mono ?_); rintro e wl ⟨rfl, hw⟩; replace hw := hw.symm; subst hw)
            | (go_at_call 20; go_must (refine (lives_ok _).mono ?_); rintro e wl ⟨rfl, hk⟩; have HKL := Lib.hid hk; clear hk))
          go_ret
          exact ⟨rfl, HKE.out.then_ HKL.out⟩
end Go.Proofs.Ytnofckgnnpmiiaa.Str

/- What is proved: for every input of bulk at most 1048576 the law OrderTexts returns true, and its arguments read as before. -/
namespace Go.Proofs.Ytnofckgnnpmiiaa.OrderTexts
open Go.ChangeShapes Go.WideShapes Go.ChangeAt Go.RowKit

theorem has_lt {P : Program} {w : World} {r : Reach} {base : Nat} {a : Addr} {e : TypeId} {n : Nat} (h : World.has P w r base a e n) : a.block < w.heap.size := by
  obtain ⟨_, _, row, cells, hs, _⟩ := h
  unfold World.shape? at hs
  by_cases hl : a.block < w.heap.size
  · exact hl
  · rw [Array.getElem?_eq_none (by omega)] at hs
    cases hs
set_option maxRecDepth 100000 in
theorem slice_lt {w : World} {base : Nat} {a : Addr} {n c : Nat} (h : Value.okWide Try.prog w .any base 41 (.slice (some a) n c)) : a.block < w.heap.size := by
  simp only [Value.okWide, Cell.okWide, Cell.ok, Try.underlying41] at h
  exact has_lt h.2.2
theorem bulk_strs {H : Type} : ∀ (l : List ByteArray) (s : ByteArray), s ∈ l → s.size ≤ Rows.uptoBulkAll (strs (H := H) l)
  | [], _, h => by simp at h
  | x :: l, s, h => by
    have e : Rows.uptoBulkAll (strs (H := H) (x :: l)) = (x.data.toList.length + 1) + Rows.uptoBulkAll (strs (H := H) l) := by
      simp only [strs, List.map_cons, Rows.uptoBulkAll, Rows.uptoBulk]
    rw [e]
    rcases List.mem_cons.1 h with rfl | h
    · have : s.size = s.data.toList.length := Array.length_toList.symm
      omega
    · have := bulk_strs (H := H) l s h
      omega
set_option maxRecDepth 100000 in
theorem open_texts {H : Type} {enc : TypeId × Value → H} {W : World} {base : Nat} {v : Value} {d : DataW H} {ps : List MemPlace} (hval : Value.okWide Try.prog W .any base 41 v) (h : DataW.Trod enc Try.prog W 0 (fun _ => true) true 41 v d ps) :
    ∃ A c, ∃ l : List ByteArray, v = .slice A l.length c ∧ Sl ES W A c l ∧ l.length + 1 ≤ Rows.uptoBulk d ∧ (∀ s ∈ l, s.size ≤ Rows.uptoBulk d) ∧ (∀ a, A = some a → a.block < W.heap.size) := by
  obtain ⟨A, len, cap, rfl⟩ := okWide_slice Try.underlying41 hval
  obtain ⟨n, hn⟩ := h
  rcases open_strings Try.underlying41 Try.underlying9 cells9 hn with ⟨hcs, hx⟩ | ⟨a, len', cap', ss, hcs, _, hl, hm, hz, hx, hcell, hsz⟩
  · simp only [Value.cells, List.cons.injEq, Value.slice.injEq, and_true] at hcs
    obtain ⟨rfl, rfl, rfl⟩ := hcs
    exact ⟨none, 0, [], rfl, Sl.nil_ ES W none (by decide), bulk_one, fun s hs => by simp at hs, fun a ha => by simp at ha⟩
  · simp only [Value.cells, List.cons.injEq, Value.slice.injEq, and_true] at hcs
    obtain ⟨rfl, rfl, rfl⟩ := hcs
    have hlen : (ss.take len).length = len := by rw [List.length_take, hz]; simp; omega
    simp only [Prod.mk.injEq] at hx
    have hd : d = .slice (strs (ss.take len)) (strs (ss.drop len)) := hx.1
    refine ⟨some a, cap, ss.take len, by rw [hlen], ⟨by rw [hlen]; exact hl, by unfold maxLen at hm; omega, fun hne => ?_⟩, ?_, fun s hs => ?_, fun b hb => by obtain rfl := Option.some.inj hb; exact slice_lt hval⟩
    · have hpos : 0 < len := Nat.pos_of_ne_zero (fun e => by subst e; simp at hne)
      obtain ⟨b, o, e⟩ := a
      have hss : len ≤ ss.length := by rw [hz]; simp; exact hl
      have he : e = none := by
        have := hcell 0 (by omega)
        cases e with
        | none => rfl
        | some z =>
          simp [World.cell?, Addr.add] at this
          try split at this <;> simp at this
      subst he
      refine ⟨b, o, rfl, fun j v hj => ?_⟩
      have hf : ES.flat (ss.take len) = (ss.take len).map (fun s => Value.string s) := flatMap_one _ _
      rw [hf, List.getElem?_map] at hj
      obtain ⟨s, hs1, rfl⟩ := Option.map_eq_some_iff.1 hj
      rw [List.getElem?_take] at hs1
      split at hs1
      · have h2 := hcell j (List.getElem?_eq_some_iff.1 hs1).1
        rw [add_plain] at h2
        rw [h2, List.getD_eq_getElem?_getD, hs1]
        rfl
      · cases hs1
    · rw [hd, hlen]
      have h1 := bulk_slice (strs (H := H) (ss.take len)) (strs (H := H) (ss.drop len))
      rw [show (strs (H := H) (ss.take len)).length = (ss.take len).length by simp [strs]] at h1
      rw [hlen] at h1
      exact h1
    · have h1 := bulk_strs (H := H) (ss.take len) s hs
      rw [hd]
      simp only [Rows.uptoBulk]
      omega

theorem own : ownKnob Try.prog.godebug = none := by kernel_rfl

set_option maxRecDepth 100000 in
theorem contract (H : Type) (enc : TypeId × Value → H) (W : World) (base : Nat) (args : Array Value) (ds gs : List (DataW H)) (before : List MemPlace)
    (hval : ∀ (j : Nat) t v, Try.f6.params[j]? = some t → args[j]? = some v → Value.okWide Try.prog W .any base t v)
    (hW : DataW.Whole enc Try.prog Try.f6.params.toList Rows.orderTextsSpec.vars false W args.toList ds gs before) (hk : Rows.uptoSmall H (ds ++ gs) = true) :
    Calls Try.prog 6 args W fun e W' => ∃ v, e = .returned v ∧ Rows.orderTextsSpec.post enc Try.prog Try.f6 false true false false W args v W' := by
  have hW' := hW
  obtain ⟨p, q, hA0, hV, rfl, hfz, hnd⟩ := hW
  have hA : DataW.TrodAll enc Try.prog W 0 (fun _ => true) true Try.f6.params.toList args.toList ds p := hA0
  rw [Try.params6] at hA hval
  obtain ⟨v0, vs0, d0, ds0, p0, q0, hargs, rfl, rfl, h0, r0⟩ := trodAll_cons hA
  obtain ⟨rfl, rfl, rfl⟩ := trodAll_nil r0
  obtain rfl : args = #[v0] := Array.toList_inj.1 hargs
  obtain ⟨A, c, l, rfl, s0, hbl, hsz, hb0⟩ := open_texts (hval 0 41 v0 rfl rfl) h0
  have hb := bulk_bound hk
  obtain ⟨rfl, rfl⟩ := trodVars_none hV
  simp only [List.append_nil, Rows.uptoBulkAll] at hb
  clear hA0 hA
  refine (Str.texts_ok A c l W s0 (by omega) (fun s hs => by have := hsz s hs; omega) hb0).mono fun e W' ⟨he, hk'⟩ => ?_
  subst he
  exact ⟨_, rfl, law_post hW' rfl rfl rfl rfl rfl (by decide +kernel) (hk'.below (Nat.le_refl _) (fun _ _ h => h))⟩

set_option maxRecDepth 100000 in
theorem lifted (os : Os) (started : os.Started) (H : Type) (enc : TypeId × Value → H) (F : Stop.Interp) :
    ReturnsInHanded {} Try.checked os 6 .any ((Rows.OpenSpec.upto Rows.orderTextsSpec).pre6 enc Try.prog Try.f6 Rows.orderTextsUptoRow.domain false) (((Rows.OpenSpec.upto Rows.orderTextsSpec).at F).post enc Try.prog Try.f6 false true false false) := by
  refine returnsInHanded_of_cond (C := Try.checked) (s := Rows.OpenSpec.upto Rows.orderTextsSpec) (k := Rows.uptoSmall) rfl own started (by kernel_rfl) Try.func6
    (OpenSpec.witness (enc := enc) (C := Try.checked) (s := Rows.OpenSpec.upto Rows.orderTextsSpec) (k := Rows.uptoSmall) rfl false ⟨#[], #[.slice none 0 0], []⟩ 8 (by kernel_rfl) (by kernel_rfl) (by kernel_rfl)
      (x := ([.nil], [], [])) (by kernel_rfl) rfl (by kernel_rfl)) ?_
  intro W base args ds gs before hval hW _ hk _
  exact contract H enc W base args ds gs before hval hW hk

theorem over : Rows.orderTextsUptoRow.holds Try.pinned (Rows.OpenSpec.upto Rows.orderTextsSpec) :=
  OpenClaim.holds_of_cond 6 Try.f6 rfl rfl rfl rfl rfl rfl rfl ⟨rfl, rfl, rfl, rfl, rfl⟩ rfl rfl rfl rfl rfl (by kernel_rfl) Try.func6 (by kernel_rfl)
    (of_decide_eq_true (by kernel_rfl)) (by unfold Func.isWrapper; first | (rw [if_pos (by decide +kernel)]; kernel_rfl) | (rw [if_neg (by decide +kernel)]; exact ⟨rfl, rfl⟩))
    (fun os started H enc _ F => lifted os started H enc F)

theorem proved : Rows.OrderTextsUptoSaid :=
  over
end Go.Proofs.Ytnofckgnnpmiiaa.OrderTexts

