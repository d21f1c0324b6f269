/- Two orders that agree on the elements at hand: Sort, Search and Twice make the same of them. Plain Lean. -/
import Derived.Test.YtnofckgnnpmiiaaTw
import Derived.Test.YtnofckgnnpmiiaaSe
namespace Go.Proofs.Ytnofckgnnpmiiaa
section
variable {α : Type} {c c' : α → α → Int} {P : α → Prop}

theorem mergeL_P {Q : α → Prop} : ∀ (xs ys : List α), (∀ z ∈ xs, Q z) → (∀ z ∈ ys, Q z) → ∀ z ∈ mergeL c xs ys, Q z := by
  intro xs ys
  fun_induction mergeL c xs ys with
  | case1 ys => intro _ h; exact h
  | case2 xs _ => intro h _; exact h
  | case3 x xs y ys hc ih =>
    intro h1 h2 z hz
    rcases List.mem_cons.1 hz with rfl | hz
    · exact h2 _ List.mem_cons_self
    · exact ih h1 (fun z hz => h2 z (List.mem_cons_of_mem _ hz)) z hz
  | case4 x xs y ys hc ih =>
    intro h1 h2 z hz
    rcases List.mem_cons.1 hz with rfl | hz
    · exact h1 _ List.mem_cons_self
    · exact ih (fun z hz => h1 z (List.mem_cons_of_mem _ hz)) h2 z hz

theorem mergeL_on (h : ∀ x y, P x → P y → c x y = c' x y) : ∀ (xs ys : List α), (∀ z ∈ xs, P z) → (∀ z ∈ ys, P z) → mergeL c xs ys = mergeL c' xs ys := by
  intro xs ys
  fun_induction mergeL c xs ys with
  | case1 ys => intro _ _; rw [mergeL]
  | case2 xs _ => intro _ _; rw [mergeL_nil]
  | case3 x xs y ys hc ih =>
    intro h1 h2
    rw [mergeL_y (by rw [← h y x (h2 _ List.mem_cons_self) (h1 _ List.mem_cons_self)]; exact hc), ih h1 (fun z hz => h2 z (List.mem_cons_of_mem _ hz))]
  | case4 x xs y ys hc ih =>
    intro h1 h2
    rw [mergeL_x (by rw [← h y x (h2 _ List.mem_cons_self) (h1 _ List.mem_cons_self)]; exact hc), ih (fun z hz => h1 z (List.mem_cons_of_mem _ hz)) h2]

theorem passL_P {m k : Nat} {xs : List α} (h : ∀ z ∈ xs, P z) : ∀ z ∈ passL c m xs k, P z := by
  intro z hz
  rw [passL, List.mem_flatMap] at hz
  obtain ⟨j, _, hz⟩ := hz
  rw [mergedAt] at hz
  exact mergeL_P (c := c) _ _ (fun z hz => h z (List.mem_of_mem_drop (List.mem_of_mem_take hz))) (fun z hz => h z (List.mem_of_mem_drop (List.mem_of_mem_take hz))) z hz
theorem passL_on (h : ∀ x y, P x → P y → c x y = c' x y) {m k : Nat} {xs : List α} (hx : ∀ z ∈ xs, P z) : passL c m xs k = passL c' m xs k := by
  rw [passL, passL]
  congr 1
  funext j
  rw [mergedAt, mergedAt]
  exact mergeL_on h _ _ (fun z hz => hx z (List.mem_of_mem_drop (List.mem_of_mem_take hz))) (fun z hz => hx z (List.mem_of_mem_drop (List.mem_of_mem_take hz)))
theorem stepsL_P {xs : List α} (h : ∀ z ∈ xs, P z) : ∀ p, ∀ z ∈ stepsL c xs p, P z
  | 0 => h
  | p + 1 => passL_P (stepsL_P h p)
theorem stepsL_on (h : ∀ x y, P x → P y → c x y = c' x y) {xs : List α} (hx : ∀ z ∈ xs, P z) : ∀ p, stepsL c xs p = stepsL c' xs p
  | 0 => rfl
  | p + 1 => by
    rw [stepsL, stepsL, ← stepsL_on h hx p]
    exact passL_on h (stepsL_P hx p)
theorem bsearch_on (h : ∀ x y, P x → P y → c x y = c' x y) {xs : List α} (hx : ∀ z ∈ xs, P z) {x : α} (px : P x) (lo hi : Nat) : bsearch c x xs lo hi = bsearch c' x xs lo hi := by
  fun_induction bsearch c x xs lo hi with
  | case1 lo hi hlt y hy hc ih =>
    rw [bsearch_step hlt hy, if_pos (by rw [← h y x (hx y (List.mem_of_getElem? hy)) px]; exact hc), ih]
  | case2 lo hi hlt y hy hc ih =>
    rw [bsearch_step hlt hy, if_neg (by rw [← h y x (hx y (List.mem_of_getElem? hy)) px]; exact hc), ih]
  | case3 lo hi hlt hn => rw [bsearch, if_pos hlt, hn]
  | case4 lo hi hlt => rw [bsearch_end hlt]
theorem alikeAt_on (h : ∀ x y, P x → P y → c x y = c' x y) {xs : List α} (hx : ∀ z ∈ xs, P z) {x : α} (px : P x) (k : Nat) : alikeAt c x xs k = alikeAt c' x xs k := by
  unfold alikeAt
  split
  · rename_i y hy
    rw [h y x (hx y (List.mem_of_getElem? hy)) px]
  · rfl
theorem byPlace_on (h : ∀ x y, P x → P y → c x y = c' x y) {xs : List α} (hx : ∀ z ∈ xs, P z) : byPlace c xs = byPlace c' xs := by
  funext i j
  exact h _ _ (hx _ (List.getElem_mem _)) (hx _ (List.getElem_mem _))
end
end Go.Proofs.Ytnofckgnnpmiiaa
