/- Lists as heaps: what Add and Take make of them. Plain Lean. -/
import Derived.Test.YtnofckgnnpmiiaaOrd
namespace Go.Proofs.Ytnofckgnnpmiiaa

/-- does the one go ahead of the other? -/
def aheadB (c : Item → Item → Int) (x y : Held Item) : Bool := decide (c x.1 y.1 < 0) || (c x.1 y.1 == 0 && decide (x.2 < y.2))
def upL (c : Item → Item → Int) : Nat → List (Held Item) → Nat → List (Held Item)
  | 0, hs, _ => hs
  | f + 1, hs, i => if i = 0 then hs else
    match hs[i]?, hs[(i - 1) / 2]? with
    | some x, some y => if aheadB c x y then upL c f ((hs.set i y).set ((i - 1) / 2) x) ((i - 1) / 2) else hs
    | _, _ => hs
theorem upL_fuel (c : Item → Item → Int) : ∀ (f i : Nat) (hs : List (Held Item)), i ≤ f → upL c f hs i = upL c i hs i := by
  intro f
  induction f using Nat.strongRecOn with
  | _ f ih =>
    intro i hs hi
    cases i with
    | zero => cases f <;> simp [upL]
    | succ i =>
      obtain ⟨g, rfl⟩ : ∃ g, f = g + 1 := ⟨f - 1, by omega⟩
      simp only [upL, Nat.add_one_ne_zero, if_false]
      split
      · split
        · rename_i x y hx hy ha
          rw [ih g (by omega) _ _ (by omega)]
          by_cases hgi : g = i
          · subst hgi; rw [ih g (by omega) _ _ (by omega)]
          · rw [ih i (by omega) _ _ (by omega)]
        · rfl
      · rfl
theorem upL_len (c : Item → Item → Int) : ∀ (f i : Nat) (hs : List (Held Item)), (upL c f hs i).length = hs.length := by
  intro f
  induction f with
  | zero => intro i hs; rfl
  | succ f ih =>
    intro i hs
    rw [upL]
    split
    · rfl
    · split
      · split
        · rw [ih]; simp
        · rfl
      · rfl
theorem upL_zero (c : Item → Item → Int) (hs : List (Held Item)) : upL c 0 hs 0 = hs := rfl
theorem upL_stay {c : Item → Item → Int} {hs : List (Held Item)} {i : Nat} {x y : Held Item} (hi : 0 < i) (hx : hs[i]? = some x) (hy : hs[(i - 1) / 2]? = some y) (ha : aheadB c x y = false) : upL c i hs i = hs := by
  obtain ⟨g, rfl⟩ : ∃ g, i = g + 1 := ⟨i - 1, by omega⟩
  rw [upL]
  simp only [hx, hy, ha, Nat.add_one_ne_zero, if_false, Bool.false_eq_true]
theorem upL_go {c : Item → Item → Int} {hs : List (Held Item)} {i : Nat} {x y : Held Item} (hi : 0 < i) (hx : hs[i]? = some x) (hy : hs[(i - 1) / 2]? = some y) (ha : aheadB c x y = true) :
    upL c i hs i = upL c ((i - 1) / 2) ((hs.set i y).set ((i - 1) / 2) x) ((i - 1) / 2) := by
  obtain ⟨g, rfl⟩ : ∃ g, i = g + 1 := ⟨i - 1, by omega⟩
  rw [upL]
  simp only [hx, hy, ha, if_true, Nat.add_one_ne_zero, if_false]
  exact upL_fuel _ _ _ _ (by omega)
def addOne (c : Item → Item → Int) (hs : List (Held Item)) (m : Int) (x : Item) : List (Held Item) := upL c hs.length (hs ++ [(x, m)]) hs.length
theorem addOne_len (c : Item → Item → Int) (hs : List (Held Item)) (m : Int) (x : Item) : (addOne c hs m x).length = hs.length + 1 := by
  rw [addOne, upL_len]; simp
def addL (c : Item → Item → Int) : List (Held Item) → Int → List Item → List (Held Item)
  | hs, _, [] => hs
  | hs, m, x :: xs => addL c (addOne c hs m x) (m + 1) xs
theorem addL_len (c : Item → Item → Int) : ∀ (xs : List Item) (hs : List (Held Item)) (m : Int), (addL c hs m xs).length = hs.length + xs.length
  | [], hs, m => rfl
  | x :: xs, hs, m => by rw [addL, addL_len c xs, addOne_len, List.length_cons]; omega
theorem addL_snoc (c : Item → Item → Int) (x : Item) : ∀ (xs : List Item) (hs : List (Held Item)) (m : Int), addL c hs m (xs ++ [x]) = addOne c (addL c hs m xs) (m + xs.length) x
  | [], hs, m => by simp [addL]
  | y :: xs, hs, m => by
    rw [List.cons_append, addL, addL_snoc c x xs, addL, List.length_cons]
    congr 1
    omega

/-! ### down -/
/-- the child to look at: of the m first ones -/
def kid (c : Item → Item → Int) (hs : List (Held Item)) (i : Nat) : Nat :=
  match hs[2 * i + 2]?, hs[2 * i + 1]? with
  | some x, some y => if aheadB c x y then 2 * i + 2 else 2 * i + 1
  | _, _ => 2 * i + 1
def downL (c : Item → Item → Int) : Nat → List (Held Item) → Nat → List (Held Item)
  | 0, hs, _ => hs
  | f + 1, hs, i =>
    match hs[kid c hs i]?, hs[i]? with
    | some x, some y => if aheadB c x y then downL c f ((hs.set i x).set (kid c hs i) y) (kid c hs i) else hs
    | _, _ => hs
theorem kid_gt (c : Item → Item → Int) (hs : List (Held Item)) (i : Nat) : i < kid c hs i := by
  unfold kid; split
  · split <;> omega
  · omega
theorem downL_len (c : Item → Item → Int) : ∀ (f i : Nat) (hs : List (Held Item)), (downL c f hs i).length = hs.length := by
  intro f
  induction f with
  | zero => intro i hs; rfl
  | succ f ih =>
    intro i hs
    rw [downL]
    split
    · split
      · rw [ih]; simp
      · rfl
    · rfl
theorem downL_fuel (c : Item → Item → Int) : ∀ (f g i : Nat) (hs : List (Held Item)), hs.length - i ≤ f → hs.length - i ≤ g → downL c f hs i = downL c g hs i := by
  have none_ : ∀ (g i : Nat) (hs : List (Held Item)), hs.length ≤ i → downL c g hs i = hs := fun g i hs h => by
    cases g with
    | zero => rfl
    | succ g =>
      have hk := kid_gt c hs i
      rw [downL, List.getElem?_eq_none (by omega : hs.length ≤ kid c hs i)]
  intro f
  induction f with
  | zero => intro g i hs h _; rw [none_ g i hs (by omega)]; rfl
  | succ f ih =>
    intro g i hs h1 h2
    cases g with
    | zero => rw [none_ (f + 1) i hs (by omega)]; rfl
    | succ g =>
      have hk := kid_gt c hs i
      rw [downL, downL]
      split
      · split
        · exact ih _ _ _ (by simp; omega) (by simp; omega)
        · rfl
      · rfl
theorem downL_none {c : Item → Item → Int} {f i : Nat} {hs : List (Held Item)} (h : hs.length ≤ 2 * i + 1) : downL c f hs i = hs := by
  cases f with
  | zero => rfl
  | succ f =>
    have hk : 2 * i + 1 ≤ kid c hs i := by unfold kid; split; (split <;> omega); omega
    rw [downL, List.getElem?_eq_none (by omega : hs.length ≤ kid c hs i)]
theorem downL_stay {c : Item → Item → Int} {f i k : Nat} {hs : List (Held Item)} {x y : Held Item} (hk : kid c hs i = k) (hx : hs[k]? = some x) (hy : hs[i]? = some y) (ha : aheadB c x y = false) : downL c f hs i = hs := by
  cases f with
  | zero => rfl
  | succ f => rw [downL, hk]; simp only [hx, hy, ha, Bool.false_eq_true, if_false]
theorem downL_go {c : Item → Item → Int} {i k : Nat} {hs : List (Held Item)} {x y : Held Item} (hk : kid c hs i = k) (hx : hs[k]? = some x) (hy : hs[i]? = some y) (ha : aheadB c x y = true) :
    downL c (hs.length - i) hs i = downL c (hs.length - k) ((hs.set i x).set k y) k := by
  have hkg := kid_gt c hs i
  have hkl := (List.getElem?_eq_some_iff.1 hx).1
  obtain ⟨f, hf⟩ : ∃ f, hs.length - i = f + 1 := ⟨hs.length - i - 1, by omega⟩
  rw [hf, downL, hk]
  simp only [hx, hy, ha, if_true]
  exact downL_fuel c _ _ _ _ (by simp; omega) (by simp)
theorem kid_two {c : Item → Item → Int} {i : Nat} {hs : List (Held Item)} {x y : Held Item} (hx : hs[2 * i + 2]? = some x) (hy : hs[2 * i + 1]? = some y) : kid c hs i = if aheadB c x y then 2 * i + 2 else 2 * i + 1 := by
  unfold kid; rw [hx, hy]
theorem kid_one {c : Item → Item → Int} {i : Nat} {hs : List (Held Item)} (h : hs.length ≤ 2 * i + 2) : kid c hs i = 2 * i + 1 := by
  unfold kid; rw [List.getElem?_eq_none h]
/-- what Take leaves -/
def takeL (c : Item → Item → Int) (hs : List (Held Item)) : List (Held Item) :=
  match hs[hs.length - 1]? with
  | some z => downL c (hs.length - 1) ((hs.set 0 z).take (hs.length - 1)) 0
  | none => []
end Go.Proofs.Ytnofckgnnpmiiaa
