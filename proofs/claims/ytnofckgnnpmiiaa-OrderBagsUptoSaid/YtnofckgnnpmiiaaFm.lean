/- A region that draws its order: still operations, one call that waits for all of them, then still operations that wait for the call. -/
import Derived.Test.YtnofckgnnpmiiaaFr
namespace Go.Proofs.Ytnofckgnnpmiiaa
open Go.RowKit Go.Shelf
section
variable {P : Program} {ops : Array Oper} {md : Region.Mode} {w : World} {Q : Exit → Act → World → Prop}

structure Veil (p : Prop) : Prop where
  out : p
/-- a step of what is still, veiled: Lean's unifier else reckons on through operations that are not wanted -/
theorem veil_step {Q : Act → Prop} {a : Act} {o : Oper} {rest : List Oper}
    (h : ∀ K : Act → Prop, (∀ a, Veil (wpStill P ops w Q rest a) → K a) → if Region.wanted o (yielded ops a.tmps) then o.still P a w K else K (a.put o.dst undef)) : Veil (wpStill P ops w Q (o :: rest) a) :=
  ⟨wpStill_step fun K hK => h K fun a h => hK a h.out⟩

/-- each operation behind the call waits for the call or for another one between -/
def behindB (md : Region.Mode) (ops : Array Oper) (n : Nat) : Bool :=
  (List.range ops.size).all fun t => decide (t ≤ n) || (List.range t).any fun s => decide (n ≤ s) && Region.waitsFor md ops t s
def headB (md : Region.Mode) (ops : Array Oper) (n : Nat) : Nat → Nat → Array Bool → Bool
  | 0, k, listed => decide (k = n) && decide (Region.ready md ops listed = [n]) && Region.lexFrom md ops (ops.size - (n + 1)) (n + 1) (listed.setIfInBounds n true)
  | f + 1, k, listed => (Region.ready md ops listed).contains k && Region.free md ops listed k && headB md ops n f (k + 1) (listed.setIfInBounds k true)
def midB (md : Region.Mode) (ops : Array Oper) (n : Nat) : Bool :=
  Region.noSelect ops && decide (n < ops.size) && Region.sinkB md ops n && behindB md ops n && headB md ops n n 0 (Array.replicate ops.size false)

/-- as long as one ahead of the call is open, neither the call nor one behind it comes up -/
theorem shut_behind {n : Nat} {listed : Array Bool} (hs : Region.sinkB md ops n = true) (hc : behindB md ops n = true) (inv : HeadInv md ops n listed) :
    ∀ (d i : Nat), n - i = d → i < n → listed.getD i true = false → ∀ t, n ≤ t → t ∉ Region.ready md ops listed := by
  intro d
  induction d using Nat.strongRecOn with
  | _ d ih =>
    intro i hd hi hopen t ht hr
    obtain ⟨_, ot, hot, hall⟩ := mem_ready.1 hr
    have htl : t < ops.size := (Array.getElem?_eq_some_iff.1 hot).1
    rcases Nat.lt_or_ge n t with hnt | hnt
    · have h1 := List.all_eq_true.1 hc t (List.mem_range.2 htl)
      simp only [Bool.or_eq_true, decide_eq_true_eq] at h1
      rcases h1 with h1 | h1
      · omega
      · obtain ⟨s, hs1, hs2⟩ := List.any_eq_true.1 h1
        simp only [Bool.and_eq_true, decide_eq_true_eq] at hs2
        have hst := List.mem_range.1 hs1
        obtain ⟨o', ho', e, he, hb, hon⟩ := Region.waitsFor_spec hs2.2
        cases ho'.symm.trans hot
        have h2 := hall e he hb
        rw [hon, getD_both (inv.tail s hs2.1 (by omega))] at h2
        cases h2
    · have htn : t = n := by omega
      subst htn
      obtain ⟨j, hj, hj2⟩ := List.any_eq_true.1 (List.all_eq_true.1 hs i (List.mem_range.2 hi))
      simp only [Bool.and_eq_true, decide_eq_true_eq] at hj2
      obtain ⟨oj, hoj, e, he, hb, hon⟩ := Region.waitsFor_spec hj2.2
      have hjt := List.mem_range.1 hj
      rcases Nat.lt_or_ge j t with hlt | hge
      · cases hl : listed.getD j false with
        | true =>
          have h2 := inv.closed j oj hoj hl e he hb
          rw [hon, getD_both hopen] at h2
          cases h2
        | false => exact ih (t - j) (by omega) j rfl hlt (getD_in (by rw [inv.size]; omega) hl) t (Nat.le_refl _) hr
      · have hje : j = t := by omega
        subst hje
        cases hoj.symm.trans hot
        have h2 := hall e he hb
        rw [hon, getD_both hopen] at h2
        cases h2

theorem first_of_head {n i : Nat} {oi : Oper} {v : Value} {L : Array Bool → Act → Prop} (hi : ops[i]? = some oi) (hsel : ∀ (j : Nat) (o : Oper) cs b, ops[j]? = some o → o.op ≠ .select cs b)
    (hs : Region.sinkB md ops n = true) (hc : behindB md ops n = true) (hin : i < n) (hdone : ∀ listed a, L listed a → ∀ j ∈ Region.ready md ops listed, n ≤ j) :
    ∀ (f : Nat) (listed : Array Bool) (a : Act), HeadInv md ops n listed →
      (∀ j oj, ops[j]? = some oj → j ≠ i → listed.getD j true = false → (∀ e ∈ oj.after, Region.binds md e = true → e.on ≠ i) → oi.apart ops oj = true) →
      i ∈ Region.ready md ops listed → YieldsAt P ops w oi v a →
      wpAnyL P md ops w n L f (listed.setIfInBounds i true) (a.put oi.dst v) → wpAnyL P md ops w n L (f + 1) listed a := by
  have low : ∀ listed, HeadInv md ops n listed → i ∈ Region.ready md ops listed → ∀ j ∈ Region.ready md ops listed, j < n := fun listed inv hr j hj => by
    rcases Nat.lt_or_ge j n with h | h
    · exact h
    · exact absurd hj (shut_behind hs hc inv _ i rfl hin (mem_ready.1 hr).1 j h)
  intro f
  induction f with
  | zero =>
    intro listed a inv _ hr hy H
    refine ⟨fun h => (by rw [h] at hr; cases hr), fun j hj => ⟨low listed inv hr j hj, ?_⟩⟩
    rcases Decidable.em (j = i) with rfl | hji
    · exact hy.stOp hi H
    · have := hdone _ _ H j (ready_mono hj hji)
      have := low listed inv hr j hj
      omega
  | succ f ih =>
    intro listed a inv hfree hr hy H
    refine ⟨fun h => (by rw [h] at hr; cases hr), fun j hj => ⟨low listed inv hr j hj, ?_⟩⟩
    rcases Decidable.em (j = i) with rfl | hji
    · exact hy.stOp hi H
    · obtain ⟨hjo, oj, hoj, hall⟩ := mem_ready.1 hj
      have hno : ∀ e ∈ oj.after, Region.binds md e = true → e.on ≠ i := fun e he hb heq => by
        have h1 := hall e he hb
        rw [heq, getD_both (mem_ready.1 hr).1] at h1
        cases h1
      refine stOp_mono (fun a' h3 => ih _ a' (inv.set hj (low listed inv hr j hj)) (fun k ok hk hki hko hkn => hfree k ok hk hki ?_ hkn) (ready_mono hr (Ne.symm hji)) h3.1 ?_)
        (stOp_put hoj (hfree j oj hoj hji hjo hno) (fun cs b => hsel i oi cs b hi) (fun cs b => hsel j oj cs b hoj) hy (H.2 j (ready_mono hj hji)).2)
      · rcases Decidable.em (j = k) with rfl | hjk
        · exact hjo
        · rwa [getD_set_ne true hjk] at hko
      · rw [Array.setIfInBounds_comm _ _ hji]
        exact h3.2

theorem headL {n : Nat} {Lq : Act → Prop} (hsel : Region.noSelect ops = true) (hs : Region.sinkB md ops n = true) (hc : behindB md ops n = true) :
    ∀ (l : List Oper) (k : Nat) (listed : Array Bool) (a : Act), (∀ j, j < l.length → l[j]? = ops[k + j]?) → k + l.length = n → HeadInv md ops n listed →
    headB md ops n l.length k listed = true → wpStill P ops w Lq l a →
    wpAnyL P md ops w n (fun listed' a' => (Region.ready md ops listed' = [n] ∧ Region.lexFrom md ops (ops.size - (n + 1)) (n + 1) (listed'.setIfInBounds n true) = true) ∧ Lq a') l.length listed a
  | [], k, listed, a, _, _, _, hB, h => by
    simp only [List.length_nil, headB, Bool.and_eq_true, decide_eq_true_eq] at hB
    exact ⟨⟨hB.1.2, hB.2⟩, h⟩
  | o :: l, k, listed, a, hl, hk, inv, hB, h => by
    have h0 : ops[k]? = some o := by simpa using (hl 0 (by simp)).symm
    simp only [List.length_cons, headB, Bool.and_eq_true] at hB
    have hkn : k < n := by simp only [List.length_cons] at hk; omega
    have hr : k ∈ Region.ready md ops listed := by simpa using hB.1.1
    have hst : stOp P ops w k (wpStill P ops w Lq l) a := by unfold stOp; simp only [h0]; exact h
    obtain ⟨v, hy, hK⟩ := yieldsAt_of_stOp h0 hst
    exact first_of_head h0 (Region.noSelect_spec hsel) hs hc hkn (fun listed' a' hL j hj => by rw [hL.1.1] at hj; exact Nat.le_of_eq (List.mem_singleton.1 hj).symm) l.length listed a inv (Region.free_spec h0 hB.1.2) hr hy
      (headL hsel hs hc l (k + 1) _ _ (fun j hj => by have := hl (j + 1) (by simp; omega); simpa [Nat.add_assoc, Nat.add_comm 1 j] using this) (by simp only [List.length_cons] at hk; omega) (inv.set hr hkn) hB.2 hK)

theorem wpAny_midW {a : Act} {w : World} {l : List Oper} (n : Nat) (o : Oper) (ho : l[n]? = some o) (hB : midB .any l.toArray n = true)
    (h : wpStill P l.toArray w (fun a' => Region.wanted o (yielded l.toArray a'.tmps) = true ∧ ∀ K : Act → World → Prop, (∀ a'' w'', wpStill P l.toArray w'' (fun a3 => Q .normal a3 w'') (l.drop (n + 1)) a'' → K a'' w'') → o.wp P a' w K Q) (l.take n) a) :
    wpAny P .any l.toArray Q l.toArray.size (Array.replicate l.toArray.size false) a w := by
  simp only [midB, Bool.and_eq_true, decide_eq_true_eq] at hB
  obtain ⟨⟨⟨⟨hsel, hn⟩, hs⟩, hc⟩, hlex⟩ := hB
  have hn' : n < l.length := by simpa using hn
  have htl : (l.take n).length = n := by simp; omega
  have inv0 : HeadInv .any l.toArray n (Array.replicate l.toArray.size false) :=
    ⟨by simp, fun j oj _ hl => (by rw [getD_replicate_false] at hl; cases hl), fun t _ ht => getD_in (by simpa using ht) (getD_replicate_false _ _)⟩
  have H := headL (md := .any) hsel hs hc (l.take n) 0 _ a (fun j hj => by
    have hj' : j < n := by rw [htl] at hj; exact hj
    simp [hj']) (by simpa using htl) inv0 (by rw [htl]; exact hlex) h
  have := wpAny_of_head (Q' := Q) (g := l.toArray.size - (n + 1) + 1) (fun listed a' hL => by
    refine ⟨fun h0 => (by rw [hL.1.1] at h0; cases h0), fun i hi => ?_⟩
    rw [hL.1.1] at hi
    have hin : i = n := by simpa using hi
    subst hin
    unfold wpOp
    have hoi : l.toArray[i]? = some o := by simpa using ho
    simp only [hoi, hL.2.1, if_true]
    refine .inl (hL.2.2 _ (fun a'' w'' h3 => wpAny_of_still (Q := fun a3 => Q .normal a3 w'') (fun _ h => h) _ _ _ ?_))
    have := wpAnyS_lex (md := .any) hsel (l.drop (i + 1)) (i + 1) _ a'' (fun j => by simp [List.getElem?_drop]) (by rw [show (l.drop (i + 1)).length = l.toArray.size - (i + 1) by simp]; exact hL.1.2) h3
    rwa [show (l.drop (i + 1)).length = l.toArray.size - (i + 1) by simp] at this) _ _ _ H
  rw [htl, show n + (l.toArray.size - (n + 1) + 1) = l.toArray.size by omega] at this
  exact this
theorem wp_region_midW {id : Nat} {a : Act} {w : World} {l : List Oper} (n : Nat) (o : Oper) (ho : l[n]? = some o) (hm : P.follows .mixedOrders = true) (hB : midB .any l.toArray n = true)
    (h : wpStill P l.toArray w.drew (fun a' => Region.wanted o (yielded l.toArray a'.tmps) = true ∧ ∀ K : Act → World → Prop, (∀ a'' w'', wpStill P l.toArray w'' (fun a3 => Q .normal a3 w'') (l.drop (n + 1)) a'' → K a'' w'') → o.wp P a' w.drew K Q) (l.take n) a) :
    (Code.region id l.toArray true).wp P Q a w :=
  wp_region_any hm (wpAny_midW n o ho hB h)

theorem wpAny_mid {a : Act} {w : World} {l : List Oper} (n : Nat) (o : Oper) (ho : l[n]? = some o) (hg : o.guard = none) (hB : midB .any l.toArray n = true)
    (h : wpStill P l.toArray w (fun a' => ∀ K : Act → World → Prop, (∀ a'' w'', wpStill P l.toArray w'' (fun a3 => Q .normal a3 w'') (l.drop (n + 1)) a'' → K a'' w'') → o.wp P a' w K Q) (l.take n) a) :
    wpAny P .any l.toArray Q l.toArray.size (Array.replicate l.toArray.size false) a w := by
  simp only [midB, Bool.and_eq_true, decide_eq_true_eq] at hB
  obtain ⟨⟨⟨⟨hsel, hn⟩, hs⟩, hc⟩, hlex⟩ := hB
  have hn' : n < l.length := by simpa using hn
  have htl : (l.take n).length = n := by simp; omega
  have inv0 : HeadInv .any l.toArray n (Array.replicate l.toArray.size false) :=
    ⟨by simp, fun j oj _ hl => (by rw [getD_replicate_false] at hl; cases hl), fun t _ ht => getD_in (by simpa using ht) (getD_replicate_false _ _)⟩
  have H := headL (md := .any) hsel hs hc (l.take n) 0 _ a (fun j hj => by
    have hj' : j < n := by rw [htl] at hj; exact hj
    simp [hj']) (by simpa using htl) inv0 (by rw [htl]; exact hlex) h
  have := wpAny_of_head (Q' := Q) (g := l.toArray.size - (n + 1) + 1) (fun listed a' hL => by
    refine ⟨fun h0 => (by rw [hL.1.1] at h0; cases h0), fun i hi => ?_⟩
    rw [hL.1.1] at hi
    have hin : i = n := by simpa using hi
    subst hin
    unfold wpOp
    have hoi : l.toArray[i]? = some o := by simpa using ho
    simp only [hoi, Region.wanted, hg, if_true]
    refine .inl (hL.2 _ (fun a'' w'' h3 => wpAny_of_still (Q := fun a3 => Q .normal a3 w'') (fun _ h => h) _ _ _ ?_))
    have := wpAnyS_lex (md := .any) hsel (l.drop (i + 1)) (i + 1) _ a'' (fun j => by simp [List.getElem?_drop]) (by rw [show (l.drop (i + 1)).length = l.toArray.size - (i + 1) by simp]; exact hL.1.2) h3
    rwa [show (l.drop (i + 1)).length = l.toArray.size - (i + 1) by simp] at this) _ _ _ H
  rw [htl, show n + (l.toArray.size - (n + 1) + 1) = l.toArray.size by omega] at this
  exact this

theorem wp_region_mid {id : Nat} {a : Act} {w : World} {l : List Oper} (n : Nat) (o : Oper) (ho : l[n]? = some o) (hg : o.guard = none) (hm : P.follows .mixedOrders = true) (hB : midB .any l.toArray n = true)
    (h : wpStill P l.toArray w.drew (fun a' => ∀ K : Act → World → Prop, (∀ a'' w'', wpStill P l.toArray w'' (fun a3 => Q .normal a3 w'') (l.drop (n + 1)) a'' → K a'' w'') → o.wp P a' w.drew K Q) (l.take n) a) :
    (Code.region id l.toArray true).wp P Q a w :=
  wp_region_any hm (wpAny_mid n o ho hg hB h)
theorem wpIn_region_mid {id r : Nat} {a : Act} {w : World} {l : List Oper} (n : Nat) (o : Oper) (ho : l[n]? = some o) (hg : o.guard = none) (hm : P.follows .mixedOrders = true) (hB : midB .any l.toArray n = true) (hnd : noDefer l.toArray = true) (hQ : ¬ LetsOut Q) {k : Nat}
    (h : wpStill P l.toArray w.drew (fun a' => ∀ K : Act → World → Prop, (∀ a'' w'', wpStill P l.toArray w'' (fun a3 => Q .normal a3 w'') (l.drop (n + 1)) a'' → K a'' w'') → o.wp P a' w.drew K Q) (l.take n) a) :
    (Code.region id l.toArray true).wpIn (Fence.wide.inRound r) k P Q a w :=
  wpIn_region_any hm (wpAnyIn_of_wpAny hnd hQ _ _ _ _ (wpAny_mid n o ho hg hB h))
end
end Go.Proofs.Ytnofckgnnpmiiaa
