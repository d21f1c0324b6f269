/- Plain laws of sorting: what Sort makes is the one list in order that keeps those alike as they stood. -/
import Derived.Test.YtnofckgnnpmiiaaSi
namespace Go.Proofs.Ytnofckgnnpmiiaa

/-- c orders by a number that each element has. -/
structure Keyed {α : Type} (c : α → α → Int) (κ : α → Int) : Prop where
  lt : ∀ x y, c x y < 0 ↔ κ x < κ y
  eq : ∀ x y, c x y = 0 ↔ κ x = κ y

section
variable {α : Type} {c : α → α → Int} {κ : α → Int}

/-- zs is xs in order, those alike as they stand. -/
structure Sorts (κ : α → Int) (xs zs : List α) : Prop where
  up : zs.Pairwise (fun a b => κ a ≤ κ b)
  same : ∀ v, zs.filter (fun a => κ a == v) = xs.filter (fun a => κ a == v)

theorem Sorts.cons_le {z : α} {zs : List α} (h : (z :: zs).Pairwise (fun a b => κ a ≤ κ b)) : ∀ a ∈ z :: zs, κ z ≤ κ a := by
  intro a ha
  rcases List.mem_cons.1 ha with rfl | ha
  · exact Int.le_refl _
  · exact (List.pairwise_cons.1 h).1 a ha

theorem unique_ {zs : List α} : ∀ {ys : List α}, ys.Pairwise (fun a b => κ a ≤ κ b) → zs.Pairwise (fun a b => κ a ≤ κ b) → (∀ v, ys.filter (fun a => κ a == v) = zs.filter (fun a => κ a == v)) → ys = zs := by
  induction zs with
  | nil =>
    intro ys _ _ hf
    cases ys with
    | nil => rfl
    | cons y ys => have := hf (κ y); simp at this
  | cons z zs ih =>
    intro ys hy hz hf
    cases ys with
    | nil => have := hf (κ z); simp at this
    | cons y ys =>
      have e1 : κ y = κ z := by
        have h1 : z ∈ y :: ys := by
          have : z ∈ (z :: zs).filter (fun a => κ a == κ z) := by simp
          rw [← hf] at this
          exact (List.mem_filter.1 this).1
        have h2 : y ∈ z :: zs := by
          have : y ∈ (y :: ys).filter (fun a => κ a == κ y) := by simp
          rw [hf] at this
          exact (List.mem_filter.1 this).1
        exact Int.le_antisymm (Sorts.cons_le hy z h1) (Sorts.cons_le hz y h2)
      have e2 : y = z := by
        have := hf (κ z)
        rw [List.filter_cons_of_pos (by simp [e1]), List.filter_cons_of_pos (by simp)] at this
        exact (List.cons.inj this).1
      subst e2
      rw [ih (List.pairwise_cons.1 hy).2 (List.pairwise_cons.1 hz).2 (fun v => ?_)]
      have := hf v
      by_cases hv : κ y = v
      · rw [List.filter_cons_of_pos (by simp [hv]), List.filter_cons_of_pos (by simp [hv])] at this
        exact (List.cons.inj this).2
      · rw [List.filter_cons_of_neg (by simp [hv]), List.filter_cons_of_neg (by simp [hv])] at this
        exact this
theorem Sorts.unique {xs ys zs : List α} (h : Sorts κ xs ys) (k : Sorts κ xs zs) : ys = zs := unique_ h.up k.up (fun v => (h.same v).trans (k.same v).symm)
theorem Sorts.mem {xs zs : List α} (h : Sorts κ xs zs) (a : α) : a ∈ zs ↔ a ∈ xs := by
  have e := h.same (κ a)
  constructor
  · intro ha
    have : a ∈ zs.filter (fun b => κ b == κ a) := List.mem_filter.2 ⟨ha, by simp⟩
    rw [e] at this
    exact (List.mem_filter.1 this).1
  · intro ha
    have : a ∈ xs.filter (fun b => κ b == κ a) := List.mem_filter.2 ⟨ha, by simp⟩
    rw [← e] at this
    exact (List.mem_filter.1 this).1
theorem Sorts.perm [DecidableEq α] {xs zs : List α} (h : Sorts κ xs zs) : zs.Perm xs := by
  rw [List.perm_iff_count]
  intro a
  have e := h.same (κ a)
  rw [← List.count_filter (p := fun b => κ b == κ a) (l := zs) (by simp), e, List.count_filter (by simp)]

/-! ### merging -/
theorem mergeL_sub (xs ys : List α) : ∀ a, a ∈ mergeL c xs ys ↔ a ∈ xs ∨ a ∈ ys := by
  intro a
  fun_induction mergeL c xs ys with
  | case1 => simp
  | case2 => simp
  | case3 x xs y ys h ih => rw [List.mem_cons, ih, List.mem_cons, List.mem_cons]; grind
  | case4 x xs y ys h ih => rw [List.mem_cons, ih, List.mem_cons, List.mem_cons]; grind
theorem mergeL_up (hk : Keyed c κ) (xs ys : List α) (hx : xs.Pairwise (fun a b => κ a ≤ κ b)) (hy : ys.Pairwise (fun a b => κ a ≤ κ b)) : (mergeL c xs ys).Pairwise (fun a b => κ a ≤ κ b) := by
  fun_induction mergeL c xs ys with
  | case1 => exact hy
  | case2 => exact hx
  | case3 x xs y ys h ih =>
    rw [List.pairwise_cons]
    refine ⟨fun a ha => ?_, ih hx (List.pairwise_cons.1 hy).2⟩
    have hlt := (hk.lt y x).1 h
    rcases (mergeL_sub _ _ a).1 ha with h1 | h1
    · have := Sorts.cons_le hx a h1; omega
    · exact (List.pairwise_cons.1 hy).1 a h1
  | case4 x xs y ys h ih =>
    rw [List.pairwise_cons]
    refine ⟨fun a ha => ?_, ih (List.pairwise_cons.1 hx).2 hy⟩
    have hle : κ x ≤ κ y := by
      have := mt (hk.lt y x).2 h
      omega
    rcases (mergeL_sub _ _ a).1 ha with h1 | h1
    · exact (List.pairwise_cons.1 hx).1 a h1
    · have := Sorts.cons_le hy a h1; omega
theorem filter_none {v : Int} {xs : List α} (h : ∀ a ∈ xs, v < κ a) : xs.filter (fun a => κ a == v) = [] := by
  rw [List.filter_eq_nil_iff]
  intro a ha
  have := h a ha
  simp
  omega
theorem mergeL_filter (hk : Keyed c κ) (v : Int) (xs ys : List α) (hx : xs.Pairwise (fun a b => κ a ≤ κ b)) (hy : ys.Pairwise (fun a b => κ a ≤ κ b)) :
    (mergeL c xs ys).filter (fun a => κ a == v) = xs.filter (fun a => κ a == v) ++ ys.filter (fun a => κ a == v) := by
  fun_induction mergeL c xs ys with
  | case1 => simp
  | case2 => simp
  | case3 x xs y ys h ih =>
    have hlt := (hk.lt y x).1 h
    have e := ih hx (List.pairwise_cons.1 hy).2
    by_cases hv : κ y = v
    · rw [List.filter_cons_of_pos (by simp [hv]), e, filter_none (xs := x :: xs) (fun a ha => by have := Sorts.cons_le hx a ha; omega)]
      simp [hv]
    · rw [List.filter_cons_of_neg (by simp [hv]), e, List.filter_cons_of_neg (a := y) (by simp [hv])]
  | case4 x xs y ys h ih =>
    have e := ih (List.pairwise_cons.1 hx).2 hy
    by_cases hv : κ x = v
    · rw [List.filter_cons_of_pos (by simp [hv]), e, List.filter_cons_of_pos (a := x) (by simp [hv]), List.cons_append]
    · rw [List.filter_cons_of_neg (by simp [hv]), e, List.filter_cons_of_neg (a := x) (by simp [hv])]

/-! ### passes -/
def chunk (m j : Nat) (xs : List α) : List α := (xs.drop (j * m)).take m
theorem passL_split (m : Nat) (xs : List α) : ∀ d j, ∃ R, passL c m xs (j + 1 + d) = passL c m xs j ++ (mergedAt c m xs j ++ R)
  | 0, j => ⟨[], by rw [Nat.add_zero, passL_succ, List.append_nil]⟩
  | d + 1, j => by
    obtain ⟨R, h⟩ := passL_split m xs d j
    exact ⟨R ++ mergedAt c m xs (j + 1 + d), by rw [← Nat.add_assoc, passL_succ, h]; simp⟩
theorem passL_chunk (m : Nat) (xs : List α) (k j : Nat) (hk : xs.length ≤ k * (2 * m)) (hm : 0 < m) : chunk (2 * m) j (passL c m xs k) = mergedAt c m xs j := by
  by_cases hj : j < k
  · obtain ⟨d, rfl⟩ : ∃ d, k = j + 1 + d := ⟨k - j - 1, by omega⟩
    obtain ⟨R, hR⟩ := passL_split (c := c) m xs d j
    have hl := passL_len c m xs (j + 1 + d)
    have hl1 := passL_len c m xs j
    have hl2 := mergedAt_len c m xs j
    rw [Nat.min_eq_right hk] at hl
    have hlen : xs.length = (passL c m xs j).length + ((mergedAt c m xs j).length + R.length) := by rw [← hl, hR, List.length_append, List.length_append]
    unfold chunk
    rw [hR]
    by_cases h1 : j * (2 * m) ≤ xs.length
    · rw [Nat.min_eq_left h1] at hl1
      rw [← hl1, List.drop_left]
      by_cases h2 : 2 * m ≤ xs.length - j * (2 * m)
      · rw [Nat.min_eq_left h2] at hl2
        rw [← hl2, List.take_left]
      · have : R = [] := List.eq_nil_of_length_eq_zero (by omega)
        subst this
        rw [List.append_nil]
        exact List.take_of_length_le (by omega)
    · have e1 : mergedAt c m xs j = [] := mergedAt_out c m xs j (by omega)
      have e2 : R = [] := List.eq_nil_of_length_eq_zero (by rw [e1] at hlen; simp at hlen; omega)
      rw [e1, e2]
      rw [List.drop_eq_nil_of_le (by simp; omega), List.take_nil]
  · rw [mergedAt_out c m xs j (by have := Nat.mul_le_mul_right (2 * m) (show k ≤ j by omega); omega)]
    unfold chunk
    rw [List.drop_eq_nil_of_le ?_]
    · exact List.take_nil
    · have hl := passL_len c m xs k
      have := Nat.mul_le_mul_right (2 * m) (show k ≤ j by omega)
      omega
theorem chunk_two (m j : Nat) (xs : List α) : chunk (2 * m) j xs = chunk m (2 * j) xs ++ chunk m (2 * j + 1) xs := by
  unfold chunk
  have e1 : 2 * j * m = j * (2 * m) := by rw [Nat.mul_comm 2 j, Nat.mul_assoc]
  have e2 : (2 * j + 1) * m = j * (2 * m) + m := by rw [Nat.add_mul, e1, Nat.one_mul]
  rw [e1, e2, ← List.drop_drop, Nat.two_mul, List.take_add]
theorem mergedAt_chunk (m j : Nat) (xs : List α) : mergedAt c m xs j = mergeL c (chunk m (2 * j) xs) (chunk m (2 * j + 1) xs) := by
  unfold mergedAt chunk
  have e1 : 2 * j * m = j * (2 * m) := by rw [Nat.mul_comm 2 j, Nat.mul_assoc]
  have e2 : (2 * j + 1) * m = j * (2 * m) + m := by rw [Nat.add_mul, e1, Nat.one_mul]
  rw [e1, e2]

theorem stepsL_chunk (hk : Keyed c κ) (xs : List α) : ∀ (p j : Nat), Sorts κ (chunk (2 ^ p) j xs) (chunk (2 ^ p) j (stepsL c xs p))
  | 0, j => ⟨by
      have : (chunk (2 ^ 0) j (stepsL c xs 0)).length ≤ 1 := by unfold chunk; rw [List.length_take]; omega
      match hh : chunk (2 ^ 0) j (stepsL c xs 0), this with
      | [], _ => exact List.Pairwise.nil
      | [a], _ => exact List.pairwise_singleton _ _
      | _ :: _ :: _, h => simp at h, fun v => rfl⟩
  | p + 1, j => by
    have hm : 0 < 2 ^ p := Nat.one_le_two_pow
    have e : chunk (2 ^ (p + 1)) j (stepsL c xs (p + 1)) = mergedAt c (2 ^ p) (stepsL c xs p) j := by
      rw [show 2 ^ (p + 1) = 2 * 2 ^ p by rw [Nat.pow_succ, Nat.mul_comm]]
      exact passL_chunk (2 ^ p) (stepsL c xs p) _ j (by rw [stepsL_len]; have := Nat.mul_le_mul_left xs.length (show 1 ≤ 2 * 2 ^ p by omega); omega) hm
    obtain ⟨a1, a2⟩ := stepsL_chunk hk xs p (2 * j)
    obtain ⟨b1, b2⟩ := stepsL_chunk hk xs p (2 * j + 1)
    rw [e, mergedAt_chunk]
    refine ⟨mergeL_up hk _ _ a1 b1, fun v => ?_⟩
    rw [mergeL_filter hk v _ _ a1 b1, a2, b2, show 2 ^ (p + 1) = 2 * 2 ^ p by rw [Nat.pow_succ, Nat.mul_comm], chunk_two, List.filter_append]
theorem stepsL_sorts (hk : Keyed c κ) (xs : List α) (p : Nat) (h : xs.length ≤ 2 ^ p) : Sorts κ xs (stepsL c xs p) := by
  have := stepsL_chunk hk xs p 0
  unfold chunk at this
  rw [Nat.zero_mul, List.drop_zero, List.drop_zero, List.take_of_length_le h, List.take_of_length_le (by rw [stepsL_len]; exact h)] at this
  exact this
end
end Go.Proofs.Ytnofckgnnpmiiaa
