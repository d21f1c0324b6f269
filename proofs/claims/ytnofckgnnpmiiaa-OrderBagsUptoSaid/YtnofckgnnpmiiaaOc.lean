/- The contracts of Sort, Search and Twice at the five orders, in the words of the plain laws. -/
import Derived.Test.YtnofckgnnpmiiaaPm
import Derived.Test.YtnofckgnnpmiiaaSo
namespace Go.Proofs.Ytnofckgnnpmiiaa
open Go.RowKit Go.Shelf

abbrev nob : Nat → Prop := fun _ => False
abbrev anyI : Nat → World → Prop := fun _ _ => True
theorem nobIn (A : Option Addr) : ¬ InB nob A := fun ⟨_, _, h⟩ => h
theorem byOk (o : Int) : CmpOk Try.prog EI (.func (.func (byF o)) #[] #[]) (byC o) 0 nob anyI := byC_ok o
/-- the key of an order -/
abbrev kap (o : Int) : Item → Int := fun x => keyR o x.1

theorem sort_by (o : Int) (A : Option Addr) (c L : Nat) (xs : List Item) (w : World) (hL : xs.length = L) (h : Sl EI w A c xs) (hl : L ≤ 1000000000) : Calls Try.prog 14 #[.slice A L c, .func (.func (byF o)) #[] #[]] w
    (fun e w' => ∃ A' c' zs, e = .returned (.slice A' L c') ∧ zs.length = L ∧ Sorts (kap o) xs zs ∧ Ow EI w' A' c' zs ∧ (∀ a, A' = some a → w.heap.size ≤ a.block) ∧ Keep nob w w') := by
  subst hL
  refine (sort_any (byOk o) A c 0 xs w (Nat.zero_le _) h hl trivial).mono ?_
  rintro e w' ⟨A', c', p, rfl, ho, h1, -, hf, hk, -⟩
  exact ⟨A', c', _, rfl, stepsL_len _ _ _, stepsL_sorts (byC_keyed o) xs p h1, ho, hf, hk⟩
theorem FoundAt.byC {o : Int} {x : Item} {zs : List Item} {n : Nat} (h : FoundAt (byC o) x zs n) : FoundAt (cmpR o) x zs n :=
  ⟨h.le, fun i y hi hy => (byC_neg o y x).1 (h.below i y hi hy), fun i y hi hy => fun hc => h.above i y hi hy ((byC_neg o y x).2 hc)⟩
theorem alikeAt_by (o : Int) (x : Item) (zs : List Item) (n : Nat) : alikeAt (byC o) x zs n = alikeAt (cmpR o) x zs n := by
  unfold alikeAt
  split
  · rename_i y _
    rw [Bool.eq_iff_iff]
    simp only [beq_iff_eq]
    exact byC_zero o y x
  · rfl
theorem search_by (o : Int) (A : Option Addr) (c L : Nat) (zs : List Item) (x : Item) (w : World) (hL : zs.length = L) (h : Sl EI w A c zs) (hl : L ≤ 1000000000) : Calls Try.prog 21 #[.slice A L c, EI.val x, .func (.func (byF o)) #[] #[]] w
    (fun e w' => ∃ n, e = .returned (.tuple #[.int .i64 ((n : Nat) : Int), .bool (alikeAt (cmpR o) x zs n)]) ∧ n ≤ L ∧ (zs.Pairwise (fun a b => kap o a ≤ kap o b) → FoundAt (cmpR o) x zs n) ∧ Keep nob w w') := by
  subst hL
  refine (search_any (byOk o) A c 0 zs x w (Nat.zero_le _) h (nobIn A) hl trivial).mono ?_
  rintro e w' ⟨rfl, hn, hk, -⟩
  exact ⟨_, by rw [alikeAt_by], hn, fun hz => (bsearch_all (byC_keyed o) x zs hz).byC, hk⟩
theorem dupAt_by {o : Int} {xs : List Item} {j : Nat} : dupAt (byC o) xs j ↔ dupAt (cmpR o) xs j := by
  unfold dupAt
  simp only [byC_zero]
theorem twice_by (o : Int) (A : Option Addr) (c L : Nat) (xs : List Item) (w : World) (hL : xs.length = L) (h : Sl EI w A c xs) (hl : L ≤ 1000000000) : Calls Try.prog 24 #[.slice A L c, .func (.func (byF o)) #[] #[]] w
    (fun e w' => ∃ k, e = .returned (.int .i64 k) ∧ TwSpec (cmpR o) xs k ∧ Keep nob w w') := by
  subst hL
  refine (twice_any (byOk o) A c 0 xs w (Nat.zero_le _) h (nobIn A) hl trivial).mono ?_
  rintro e w' ⟨p, rfl, h1, -, hk, -⟩
  refine ⟨_, rfl, ?_, hk⟩
  have := twice_spec (byC_keyed o) xs p h1
  unfold TwSpec at this ⊢
  simp only [dupAt_by] at this
  exact this
end Go.Proofs.Ytnofckgnnpmiiaa
