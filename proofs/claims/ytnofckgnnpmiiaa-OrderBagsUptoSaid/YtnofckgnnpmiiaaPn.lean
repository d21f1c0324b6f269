/- The reference's way of sorting: each element at the place that is how many go ahead of it. Plain Lean. -/
import Derived.Test.YtnofckgnnpmiiaaPm
namespace Go.Proofs.Ytnofckgnnpmiiaa

section
variable {α : Type} {c : α → α → Int} {κ : α → Int}
/-- does the k-th element go ahead of the i-th one, x? -/
def goesB (c : α → α → Int) (xs : List α) (x : α) (i k : Nat) : Bool := match xs[k]? with | some y => decide (c y x < 0) || (decide (c y x = 0) && decide (k < i)) | none => false
/-- how many of the first n -/
def placeOf (c : α → α → Int) (xs : List α) (x : α) (i n : Nat) : Nat := (List.range n).countP (goesB c xs x i)
theorem placeOf_succ (c : α → α → Int) (xs : List α) (x y : α) (i n : Nat) (h : xs[n]? = some y) : placeOf c xs x i (n + 1) = placeOf c xs x i n + if c y x < 0 ∨ (c y x = 0 ∧ n < i) then 1 else 0 := by
  unfold placeOf
  rw [List.range_succ, List.countP_append, List.countP_singleton]
  have : goesB c xs x i n = decide (c y x < 0 ∨ (c y x = 0 ∧ n < i)) := by
    unfold goesB; rw [h]; simp
  rw [this]
  by_cases hh : c y x < 0 ∨ (c y x = 0 ∧ n < i) <;> simp [hh]
theorem placeOf_le (c : α → α → Int) (xs : List α) (x : α) (i n : Nat) : placeOf c xs x i n ≤ n := by
  have := List.countP_le_length (p := goesB c xs x i) (l := List.range n)
  rw [List.length_range] at this
  exact this

/-- the numbers of the elements in order, and what stands at a place -/
theorem places_exist (hk : Keyed c κ) (xs : List α) : ∃ zs, zs.length = xs.length ∧ Sorts κ xs zs ∧
    (∀ i x, xs[i]? = some x → zs[placeOf c xs x i xs.length]? = some x) ∧
    (∀ i j x y, xs[i]? = some x → xs[j]? = some y → placeOf c xs x i xs.length = placeOf c xs y j xs.length → i = j) ∧
    (∀ j, j < xs.length → ∃ i x, xs[i]? = some x ∧ placeOf c xs x i xs.length = j) := by
  obtain ⟨p, hp⟩ : ∃ p, xs.length ≤ 2 ^ p := ⟨xs.length, Nat.le_of_lt Nat.lt_two_pow_self⟩
  have hk' : Keyed (byPlace c xs) (fun i => κ xs[i]) := ⟨fun i j => hk.lt _ _, fun i j => hk.eq _ _⟩
  have hS := stepsL_sorts hk' (List.finRange xs.length) p (by simpa using hp)
  have hlen := stepsL_len (byPlace c xs) (List.finRange xs.length) p
  rw [List.length_finRange] at hlen
  generalize stepsL (byPlace c xs) (List.finRange xs.length) p = ps at hS hlen
  have hlex := List.pairwise_iff_getElem.1 (hS.lex (fin_pairwise xs.length))
  have hmap : (List.finRange xs.length).map (fun i => xs[i]) = xs := List.ext_getElem (by simp) (fun i h1 h2 => by simp)
  have hval : (List.finRange xs.length).map (fun i => i.1) = List.range xs.length := List.ext_getElem (by simp) (fun i h1 h2 => by simp)
  have hperm := hS.perm
  -- where an element's number stands
  have key : ∀ i : Fin xs.length, ps[placeOf c xs xs[i] i.1 xs.length]? = some i := fun i => by
    obtain ⟨s, hs⟩ := List.getElem?_of_mem ((hS.mem i).2 (List.mem_finRange _))
    obtain ⟨s1, s2⟩ := List.getElem?_eq_some_iff.1 hs
    have e : placeOf c xs xs[i] i.1 xs.length = s := by
      unfold placeOf
      rw [← hval, List.countP_map, ← hperm.countP_eq]
      refine countP_split _ ps s (by omega) (fun t k ht hk1 => ?_) (fun t k ht hk1 => ?_)
      · obtain ⟨t1, t2⟩ := List.getElem?_eq_some_iff.1 hk1
        have h := hlex t s t1 s1 ht
        rw [t2, s2] at h
        simp only [Function.comp, goesB, List.getElem?_eq_getElem k.2, Bool.or_eq_true, Bool.and_eq_true, decide_eq_true_eq]
        rcases h with h | ⟨h1, h2⟩
        · exact .inl ((hk.lt _ _).2 h)
        · exact .inr ⟨(hk.eq _ _).2 h1, h2⟩
      · obtain ⟨t1, t2⟩ := List.getElem?_eq_some_iff.1 hk1
        simp only [Function.comp, goesB, List.getElem?_eq_getElem k.2, Bool.or_eq_false_iff, Bool.and_eq_false_iff, decide_eq_false_iff_not]
        by_cases ets : t = s
        · subst ets
          rw [t2] at s2
          subst s2
          exact ⟨fun h => by have := (hk.lt _ _).1 h; exact absurd this (Int.lt_irrefl _), .inr (Nat.lt_irrefl _)⟩
        · have h := hlex s t s1 t1 (by omega)
          rw [t2, s2] at h
          rcases h with h | ⟨h1, h2⟩
          · refine ⟨fun h' => ?_, .inl fun h' => ?_⟩
            · have := (hk.lt _ _).1 h'
              have e1 : κ xs[k.1] = κ xs[k] := rfl
              have e2 : κ xs[i.1] = κ xs[i] := rfl
              simp only [Fin.getElem_fin] at *
              omega
            · have := (hk.eq _ _).1 h'
              simp only [Fin.getElem_fin] at *
              omega
          · refine ⟨fun h' => ?_, .inr (by omega)⟩
            have := (hk.lt _ _).1 h'
            simp only [Fin.getElem_fin] at *
            omega
    rw [e]
    exact hs
  refine ⟨ps.map (fun i => xs[i]), by simp [hlen], ⟨?_, fun v => ?_⟩, fun i x hx => ?_, fun i j x y hx hy he => ?_, fun j hj => ?_⟩
  · rw [List.pairwise_map]
    exact hS.up
  · rw [List.filter_map]
    have := hS.same v
    rw [show ((fun a => κ a == v) ∘ fun i : Fin xs.length => xs[i]) = (fun i : Fin xs.length => κ xs[i] == v) from rfl, this]
    conv => rhs; rw [← hmap]
    rw [List.filter_map]
    rfl
  · obtain ⟨h1, h2⟩ := List.getElem?_eq_some_iff.1 hx
    subst h2
    have := key ⟨i, h1⟩
    simp only [Fin.getElem_fin] at this
    rw [List.getElem?_map, this]
    rfl
  · obtain ⟨h1, h2⟩ := List.getElem?_eq_some_iff.1 hx
    obtain ⟨h3, h4⟩ := List.getElem?_eq_some_iff.1 hy
    subst h2; subst h4
    have k1 := key ⟨i, h1⟩
    have k2 := key ⟨j, h3⟩
    simp only [Fin.getElem_fin] at k1 k2
    rw [he, k2] at k1
    exact (congrArg Fin.val (Option.some.inj k1)).symm
  · have hj' : j < ps.length := by omega
    refine ⟨(ps[j]).1, xs[ps[j]], List.getElem?_eq_getElem (ps[j]).2, ?_⟩
    have h1 := key ps[j]
    obtain ⟨g1, g2⟩ := List.getElem?_eq_some_iff.1 h1
    rcases Nat.lt_trichotomy (placeOf c xs xs[ps[j]] (ps[j]).1 xs.length) j with h | h | h
    · have := hlex _ j g1 hj' h
      rw [g2] at this
      rcases this with h' | ⟨_, h'⟩
      · exact absurd h' (Int.lt_irrefl _)
      · exact absurd h' (Nat.lt_irrefl _)
    · exact h
    · have := hlex j _ hj' g1 h
      rw [g2] at this
      rcases this with h' | ⟨_, h'⟩
      · exact absurd h' (Int.lt_irrefl _)
      · exact absurd h' (Nat.lt_irrefl _)
/-- what is laid element for element -/
theorem laid_sorted {xs ys zs : List α} (hl : ys.length = xs.length) (hz : zs.length = xs.length)
    (h1 : ∀ i x, xs[i]? = some x → ys[placeOf c xs x i xs.length]? = some x) (h2 : ∀ i x, xs[i]? = some x → zs[placeOf c xs x i xs.length]? = some x)
    (h3 : ∀ j, j < xs.length → ∃ i x, xs[i]? = some x ∧ placeOf c xs x i xs.length = j) : ys = zs := by
  apply List.ext_getElem?
  intro j
  by_cases hj : j < xs.length
  · obtain ⟨i, x, hx, rfl⟩ := h3 j hj
    rw [h1 i x hx, h2 i x hx]
  · rw [List.getElem?_eq_none (by omega), List.getElem?_eq_none (by omega)]
end
end Go.Proofs.Ytnofckgnnpmiiaa
