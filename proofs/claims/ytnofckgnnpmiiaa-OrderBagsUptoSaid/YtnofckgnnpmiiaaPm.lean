/- Plain laws of searching, of what is alike an earlier one, and of the reference's sorting. -/
import Derived.Test.YtnofckgnnpmiiaaPl
import Derived.Test.YtnofckgnnpmiiaaSe
import Derived.Test.YtnofckgnnpmiiaaTw
import Derived.Test.YtnofckgnnpmiiaaRf
namespace Go.Proofs.Ytnofckgnnpmiiaa

theorem cmpR_keyed (o : Int) : Keyed (cmpR o) (fun x => keyR o x.1) := by
  constructor <;> intro x y <;> unfold cmpR <;> split <;> (try split) <;> omega
theorem byC_keyed (o : Int) : Keyed (byC o) (fun x => keyR o x.1) :=
  ⟨fun x y => (byC_neg o x y).trans ((cmpR_keyed o).lt x y), fun x y => (byC_zero o x y).trans ((cmpR_keyed o).eq x y)⟩

section
variable {α : Type} {c : α → α → Int} {κ : α → Int}

/-! ### searching -/
structure FoundAt (c : α → α → Int) (x : α) (zs : List α) (n : Nat) : Prop where
  le : n ≤ zs.length
  below : ∀ i y, i < n → zs[i]? = some y → c y x < 0
  above : ∀ i y, n ≤ i → zs[i]? = some y → ¬ c y x < 0
theorem bsearch_found (hk : Keyed c κ) (x : α) (zs : List α) (hz : zs.Pairwise (fun a b => κ a ≤ κ b)) : ∀ (d lo hi : Nat), hi - lo ≤ d → lo ≤ hi → hi ≤ zs.length →
    (∀ i y, i < lo → zs[i]? = some y → c y x < 0) → (∀ i y, hi ≤ i → zs[i]? = some y → ¬ c y x < 0) → FoundAt c x zs (bsearch c x zs lo hi) := by
  intro d
  induction d with
  | zero =>
    intro lo hi h1 h2 h3 hb ha
    have e : lo = hi := by omega
    subst e
    rw [bsearch_end (by omega)]
    exact ⟨h3, hb, ha⟩
  | succ d ih =>
    intro lo hi h1 h2 h3 hb ha
    by_cases hlt : lo < hi
    · obtain ⟨y, hy⟩ : ∃ y, zs[(lo + hi) / 2]? = some y := ⟨_, List.getElem?_eq_getElem (by omega)⟩
      rw [bsearch_step hlt hy]
      have key := List.pairwise_iff_getElem.1 hz
      by_cases hc : c y x < 0
      · rw [if_pos hc]
        refine ih _ _ (by omega) (by omega) h3 (fun i z hi' hz' => ?_) ha
        obtain ⟨g1, g2⟩ := List.getElem?_eq_some_iff.1 hz'
        obtain ⟨g3, g4⟩ := List.getElem?_eq_some_iff.1 hy
        have h4 := (hk.lt y x).1 hc
        rw [hk.lt]
        by_cases e : i = (lo + hi) / 2
        · subst e; rw [hy] at hz'; obtain rfl := Option.some.inj hz'; exact h4
        · have := key i ((lo + hi) / 2) g1 g3 (by omega)
          rw [g2, g4] at this
          omega
      · rw [if_neg hc]
        refine ih _ _ (by omega) (by omega) (by omega) hb (fun i z hi' hz' => ?_)
        obtain ⟨g1, g2⟩ := List.getElem?_eq_some_iff.1 hz'
        obtain ⟨g3, g4⟩ := List.getElem?_eq_some_iff.1 hy
        rw [hk.lt] at hc ⊢
        by_cases e : i = (lo + hi) / 2
        · subst e; rw [hy] at hz'; obtain rfl := Option.some.inj hz'; exact hc
        · have := key ((lo + hi) / 2) i g3 g1 (by omega)
          rw [g2, g4] at this
          omega
    · rw [bsearch_end hlt]
      have e : lo = hi := by omega
      subst e
      exact ⟨h3, hb, ha⟩
theorem bsearch_all (hk : Keyed c κ) (x : α) (zs : List α) (hz : zs.Pairwise (fun a b => κ a ≤ κ b)) : FoundAt c x zs (bsearch c x zs 0 zs.length) :=
  bsearch_found hk x zs hz zs.length 0 zs.length (by omega) (by omega) (Nat.le_refl _) (fun i y h => by omega) (fun i y h h' => by have := (List.getElem?_eq_some_iff.1 h').1; omega)
theorem FoundAt.unique {x : α} {zs : List α} {n m : Nat} (h : FoundAt c x zs n) (k : FoundAt c x zs m) : n = m := by
  rcases Nat.lt_trichotomy n m with hl | hl | hl
  · obtain ⟨y, hy⟩ : ∃ y, zs[n]? = some y := ⟨_, List.getElem?_eq_getElem (by have := k.le; omega)⟩
    exact absurd (k.below n _ hl hy) (h.above n _ (Nat.le_refl _) hy)
  · exact hl
  · obtain ⟨y, hy⟩ : ∃ y, zs[m]? = some y := ⟨_, List.getElem?_eq_getElem (by have := h.le; omega)⟩
    exact absurd (h.below m _ hl hy) (k.above m _ (Nat.le_refl _) hy)
theorem countP_split (p : α → Bool) : ∀ (zs : List α) (n : Nat), n ≤ zs.length → (∀ i y, i < n → zs[i]? = some y → p y = true) → (∀ i y, n ≤ i → zs[i]? = some y → p y = false) → zs.countP p = n
  | [], n, h, _, _ => by simp at h; simp [h]
  | z :: zs, 0, _, _, h2 => by
    rw [List.countP_cons, h2 0 z (Nat.le_refl _) rfl, countP_split p zs 0 (Nat.zero_le _) (fun i y h => by omega) (fun i y _ hy => h2 (i + 1) y (Nat.zero_le _) (by simpa using hy))]
    simp
  | z :: zs, n + 1, h, h1, h2 => by
    rw [List.countP_cons, h1 0 z (by omega) rfl, countP_split p zs n (by simpa using h) (fun i y hi hy => h1 (i + 1) y (by omega) (by simpa using hy)) (fun i y hi hy => h2 (i + 1) y (by omega) (by simpa using hy))]
    simp
theorem FoundAt.count {x : α} {zs : List α} {n : Nat} (h : FoundAt c x zs n) : zs.countP (fun y => decide (c y x < 0)) = n :=
  countP_split _ zs n h.le (fun i y hi hy => by simpa using h.below i y hi hy) (fun i y hi hy => by simpa using h.above i y hi hy)
theorem FoundAt.alike (hk : Keyed c κ) {x : α} {zs : List α} (hz : zs.Pairwise (fun a b => κ a ≤ κ b)) {n : Nat} (h : FoundAt c x zs n) : alikeAt c x zs n = zs.any (fun y => c y x == 0) := by
  rw [Bool.eq_iff_iff, List.any_eq_true]
  unfold alikeAt
  constructor
  · intro ha
    split at ha
    · rename_i y hy
      exact ⟨y, List.mem_of_getElem? hy, ha⟩
    · exact absurd ha (by decide)
  · rintro ⟨y, hy, ha⟩
    obtain ⟨i, hi⟩ := List.getElem?_of_mem hy
    have e0 : κ y = κ x := (hk.eq y x).1 (by simpa using ha)
    have hni : n ≤ i := by
      apply Nat.le_of_not_lt
      intro hlt
      have := (hk.lt y x).1 (h.below i y hlt hi)
      omega
    obtain ⟨g1, g2⟩ := List.getElem?_eq_some_iff.1 hi
    have hn : zs[n]? = some zs[n] := List.getElem?_eq_getElem (by omega)
    rw [hn]
    have h1 := mt (hk.lt zs[n] x).2 (h.above n _ (Nat.le_refl _) hn)
    have h2 : κ zs[n] ≤ κ y := by
      by_cases e : n = i
      · subst e; rw [g2]; exact Int.le_refl _
      · have := List.pairwise_iff_getElem.1 hz n i (by omega) g1 (by omega)
        rw [g2] at this
        exact this
    simp only [beq_iff_eq, hk.eq]
    omega

/-! ### twice -/
/-- the j-th element is alike an earlier one -/
def dupAt (c : α → α → Int) (xs : List α) (j : Nat) : Prop := ∃ i x y, i < j ∧ xs[i]? = some x ∧ xs[j]? = some y ∧ c x y = 0
def TwSpec (c : α → α → Int) (xs : List α) (k : Int) : Prop := (k = -1 ∧ ∀ j, ¬ dupAt c xs j) ∨ ∃ n : Nat, k = n ∧ dupAt c xs n ∧ ∀ j, j < n → ¬ dupAt c xs j
theorem dupAt.lt {xs : List α} {j : Nat} (h : dupAt c xs j) : j < xs.length := by
  obtain ⟨i, x, y, _, _, h2, _⟩ := h
  exact (List.getElem?_eq_some_iff.1 h2).1
theorem TwSpec.unique {xs : List α} {k k' : Int} (h : TwSpec c xs k) (h' : TwSpec c xs k') : k = k' := by
  rcases h with ⟨rfl, h⟩ | ⟨n, rfl, h1, h2⟩ <;> rcases h' with ⟨rfl, h'⟩ | ⟨n', rfl, h1', h2'⟩
  · rfl
  · exact absurd h1' (h _)
  · exact absurd h1 (h' _)
  · rcases Nat.lt_trichotomy n n' with hl | hl | hl
    · exact absurd h1 (h2' _ hl)
    · rw [hl]
    · exact absurd h1' (h2 _ hl)
theorem dupAt_take {xs : List α} {n j : Nat} : dupAt c (xs.take n) j ↔ j < n ∧ dupAt c xs j := by
  constructor
  · rintro ⟨i, x, y, h0, h1, h2, h3⟩
    have hj := (List.getElem?_eq_some_iff.1 h2).1
    rw [List.length_take] at hj
    rw [List.getElem?_take_of_lt (by omega)] at h1 h2
    exact ⟨by omega, i, x, y, h0, h1, h2, h3⟩
  · rintro ⟨hj, i, x, y, h0, h1, h2, h3⟩
    exact ⟨i, x, y, h0, by rw [List.getElem?_take_of_lt (by omega)]; exact h1, by rw [List.getElem?_take_of_lt hj]; exact h2, h3⟩
theorem TwSpec.take {xs : List α} {n : Nat} {k : Int} (h : TwSpec c xs n) (h' : TwSpec c (xs.take n) k) : k = -1 := by
  rcases h with ⟨h, _⟩ | ⟨m, e, h1, h2⟩
  · omega
  · have e : m = n := by omega
    subst e
    rcases h' with ⟨h', _⟩ | ⟨m', _, h3, _⟩
    · exact h'
    · rw [dupAt_take] at h3
      exact absurd h3.2 (h2 _ h3.1)

/-- those alike stand as they stood -/
theorem Sorts.lex {xs zs : List α} (h : Sorts κ xs zs) {r : α → α → Prop} (hr : xs.Pairwise r) : zs.Pairwise (fun a b => κ a < κ b ∨ κ a = κ b ∧ r a b) := by
  rw [List.pairwise_iff_forall_sublist]
  intro a b hab
  have h1 := (List.pairwise_iff_forall_sublist.1 h.up) hab
  by_cases e : κ a = κ b
  · refine .inr ⟨e, ?_⟩
    have h2 := hab.filter (fun y => κ y == κ b)
    rw [h.same, show [a, b].filter (fun y => κ y == κ b) = [a, b] by simp [e]] at h2
    exact (List.pairwise_iff_forall_sublist.1 hr) (h2.trans List.filter_sublist)
  · exact .inl (by omega)

theorem twF_spec {L : Nat} {c : Fin L → Fin L → Int} {ps : List (Fin L)} : ∀ k : Nat, k + 1 ≤ ps.length →
    (twF c ps k = -1 ∧ ∀ t a b, t < k → ps[t]? = some a → ps[t + 1]? = some b → c a b ≠ 0) ∨
    (∃ t a b, t < k ∧ ps[t]? = some a ∧ ps[t + 1]? = some b ∧ c a b = 0 ∧ twF c ps k = (b.1 : Int) ∧ ∀ t' a' b', t' < k → ps[t']? = some a' → ps[t' + 1]? = some b' → c a' b' = 0 → b.1 ≤ b'.1)
  | 0, _ => .inl ⟨rfl, fun t a b h => by omega⟩
  | k + 1, hk => by
    obtain ⟨a, ha⟩ : ∃ a, ps[k]? = some a := ⟨_, List.getElem?_eq_getElem (by omega)⟩
    obtain ⟨b, hb⟩ : ∃ b, ps[k + 1]? = some b := ⟨_, List.getElem?_eq_getElem (by omega)⟩
    rw [twF_succ ha hb]
    have last : ∀ t a' b', t < k + 1 → ps[t]? = some a' → ps[t + 1]? = some b' → t < k ∨ (t = k ∧ a' = a ∧ b' = b) := fun t a' b' h h1 h2 => by
      by_cases e : t = k
      · subst e
        rw [ha] at h1
        rw [hb] at h2
        exact .inr ⟨rfl, (Option.some.inj h1).symm, (Option.some.inj h2).symm⟩
      · exact .inl (by omega)
    rcases twF_spec (c := c) (ps := ps) k (by omega) with ⟨e, h⟩ | ⟨t, a1, b1, h1, h2, h3, h4, e, h5⟩
    · rw [e]
      by_cases hc : c a b = 0
      · right
        refine ⟨k, a, b, by omega, ha, hb, hc, by simp [hc], fun t' a' b' h1 h2 h3 h4 => ?_⟩
        rcases last t' a' b' h1 h2 h3 with hl | ⟨rfl, rfl, rfl⟩
        · exact absurd h4 (h _ _ _ hl h2 h3)
        · exact Nat.le_refl _
      · left
        refine ⟨by simp [hc], fun t a' b' h1 h2 h3 => ?_⟩
        rcases last t a' b' h1 h2 h3 with hl | ⟨rfl, rfl, rfl⟩
        · exact h _ _ _ hl h2 h3
        · exact hc
    · right
      rw [e]
      by_cases hc : c a b = 0 ∧ b.1 < b1.1
      · refine ⟨k, a, b, by omega, ha, hb, hc.1, ?_, fun t' a' b' g1 g2 g3 g4 => ?_⟩
        · rw [if_pos]; simp [hc.1]; omega
        · rcases last t' a' b' g1 g2 g3 with hl | ⟨rfl, rfl, rfl⟩
          · have := h5 _ _ _ hl g2 g3 g4; omega
          · exact Nat.le_refl _
      · refine ⟨t, a1, b1, by omega, h2, h3, h4, ?_, fun t' a' b' g1 g2 g3 g4 => ?_⟩
        · rw [if_neg]
          intro hh
          simp only [Bool.and_eq_true, beq_iff_eq, Bool.or_eq_true, decide_eq_true_eq] at hh
          exact hc ⟨hh.1, by omega⟩
        · rcases last t' a' b' g1 g2 g3 with hl | ⟨rfl, rfl, rfl⟩
          · exact h5 _ _ _ hl g2 g3 g4
          · omega
theorem fin_pairwise (L : Nat) : (List.finRange L).Pairwise (fun a b => a.1 < b.1) := by
  rw [List.pairwise_iff_getElem]
  intro i j h1 h2 h3
  simpa using h3
theorem twice_spec (hk : Keyed c κ) (xs : List α) (p : Nat) (hp : xs.length ≤ 2 ^ p) :
    TwSpec c xs (twF (byPlace c xs) (stepsL (byPlace c xs) (List.finRange xs.length) p) (xs.length - 1)) := by
  have hk' : Keyed (byPlace c xs) (fun i => κ xs[i]) := ⟨fun i j => hk.lt _ _, fun i j => hk.eq _ _⟩
  have hS := stepsL_sorts hk' (List.finRange xs.length) p (by simpa using hp)
  have hlen := stepsL_len (byPlace c xs) (List.finRange xs.length) p
  rw [List.length_finRange] at hlen
  generalize stepsL (byPlace c xs) (List.finRange xs.length) p = ps at hS hlen ⊢
  have hlex := List.pairwise_iff_getElem.1 (hS.lex (fin_pairwise xs.length))
  have hup := List.pairwise_iff_getElem.1 hS.up
  by_cases h0 : xs.length = 0
  · have key : ∀ z : Nat, z = 0 → twF (byPlace c xs) ps z = -1 := fun z hz => by subst hz; rfl
    exact .inl ⟨key _ (by omega), fun j h => by have := h.lt; omega⟩
  -- neighbours alike
  have A : ∀ t a b, ps[t]? = some a → ps[t + 1]? = some b → byPlace c xs a b = 0 → dupAt c xs b.1 := fun t a b h1 h2 h3 => by
    obtain ⟨g1, g2⟩ := List.getElem?_eq_some_iff.1 h1
    obtain ⟨g3, g4⟩ := List.getElem?_eq_some_iff.1 h2
    have := hlex t (t + 1) g1 g3 (by omega)
    rw [g2, g4] at this
    have e : κ xs[a] = κ xs[b] := (hk.eq _ _).1 h3
    have hlt : a.1 < b.1 := by
      rcases this with h | ⟨_, h⟩
      · omega
      · exact h
    exact ⟨a.1, xs[a], xs[b], hlt, List.getElem?_eq_getElem a.2, List.getElem?_eq_getElem b.2, h3⟩
  have Bk : ∀ j, dupAt c xs j → ∃ t a b, t < xs.length - 1 ∧ ps[t]? = some a ∧ ps[t + 1]? = some b ∧ byPlace c xs a b = 0 ∧ b.1 = j := by
    rintro j ⟨i, x, y, hij, hx, hy, hc⟩
    obtain ⟨i1, i2⟩ := List.getElem?_eq_some_iff.1 hx
    obtain ⟨j1, j2⟩ := List.getElem?_eq_some_iff.1 hy
    obtain ⟨r, hr⟩ := List.getElem?_of_mem ((hS.mem ⟨i, i1⟩).2 (List.mem_finRange _))
    obtain ⟨s, hs⟩ := List.getElem?_of_mem ((hS.mem ⟨j, j1⟩).2 (List.mem_finRange _))
    obtain ⟨r1, r2⟩ := List.getElem?_eq_some_iff.1 hr
    obtain ⟨s1, s2⟩ := List.getElem?_eq_some_iff.1 hs
    have hkk : κ x = κ y := (hk.eq _ _).1 hc
    have ei : κ xs[(⟨i, i1⟩ : Fin xs.length)] = κ x := by rw [← i2]; rfl
    have ej : κ xs[(⟨j, j1⟩ : Fin xs.length)] = κ y := by rw [← j2]; rfl
    have hrs : r < s := by
      rcases Nat.lt_trichotomy r s with h | h | h
      · exact h
      · subst h
        rw [r2] at s2
        have := congrArg Fin.val s2
        simp only at this
        omega
      · have := hlex s r s1 r1 h
        rw [r2, s2] at this
        rcases this with h' | ⟨_, h'⟩
        · omega
        · simp only at h'; omega
    obtain ⟨t, rfl⟩ : ∃ t, s = t + 1 := ⟨s - 1, by omega⟩
    have ht : t < ps.length := by omega
    refine ⟨t, ps[t], ⟨j, j1⟩, by omega, List.getElem?_eq_getElem ht, hs, ?_, rfl⟩
    rw [hk'.eq]
    have e2 := hup t (t + 1) ht s1 (by omega)
    rw [s2] at e2
    have e1 : κ xs[(⟨i, i1⟩ : Fin xs.length)] ≤ κ xs[ps[t]] := by
      by_cases e : r = t
      · subst e; exact Int.le_of_eq (congrArg (fun f : Fin xs.length => κ xs[f]) r2).symm
      · have := hup r t r1 ht (by omega)
        rw [r2] at this
        exact this
    omega
  rcases twF_spec (c := byPlace c xs) (ps := ps) (xs.length - 1) (by omega) with ⟨e, h⟩ | ⟨t, a, b, h1, h2, h3, h4, e, h5⟩
  · refine .inl ⟨e, fun j hj => ?_⟩
    obtain ⟨t, a, b, g1, g2, g3, g4, _⟩ := Bk j hj
    exact h _ _ _ g1 g2 g3 g4
  · refine .inr ⟨b.1, e, A t a b h2 h3 h4, fun j hj hd => ?_⟩
    obtain ⟨t', a', b', g1, g2, g3, g4, g5⟩ := Bk j hd
    have := h5 _ _ _ g1 g2 g3 g4
    omega
end
end Go.Proofs.Ytnofckgnnpmiiaa
