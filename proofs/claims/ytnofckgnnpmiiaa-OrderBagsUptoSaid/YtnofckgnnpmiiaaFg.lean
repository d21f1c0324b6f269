/- A region that draws its order: a head of operations that yield under a condition S on the world, or that stand alone and keep S; then a tail that waits for all of the head and need not keep S. -/
import Derived.Test.YtnofckgnnpmiiaaFm
import Derived.OrdersHeld
import Derived.RegionTactic
namespace Go.Proofs.Ytnofckgnnpmiiaa
open Go.RowKit Go.Shelf
section
variable {P : Program} {ops : Array Oper} {md : Region.Mode} {Q : Exit → Act → World → Prop} {S : World → Prop}

/-- each operation of the tail waits for an earlier one of the tail, or, maybe through others of the head, for all of the head -/
def tailB (md : Region.Mode) (ops : Array Oper) (n s0 : Nat) : Bool :=
  (List.range ops.size).all fun t => decide (t < n) || (List.range t).any (fun s => decide (n ≤ s) && Region.waitsFor md ops t s) ||
    (List.range n).all fun i => decide (i = s0) || Region.waitsFor md ops t i || (List.range n).any fun j => decide (i < j) && decide (j ≠ s0) && Region.waitsFor md ops j i

theorem shut_tail {n s0 : Nat} {listed : Array Bool} (hc : tailB md ops n s0 = true) (inv : HeadInv md ops n listed) {t : Nat} (ht : n ≤ t) :
    ∀ (d i : Nat), n - i = d → i < n → i ≠ s0 → listed.getD i true = false → t ∉ Region.ready md ops listed := by
  intro d
  induction d using Nat.strongRecOn with
  | _ d ih =>
    intro i hd hi his hopen hr
    obtain ⟨_, ot, hot, hall⟩ := mem_ready.1 hr
    have htl : t < ops.size := (Array.getElem?_eq_some_iff.1 hot).1
    have h1 := List.all_eq_true.1 hc t (List.mem_range.2 htl)
    simp only [Bool.or_eq_true, decide_eq_true_eq] at h1
    rcases h1 with (h1 | h1) | h1
    · omega
    · obtain ⟨s, hs1, hs2⟩ := List.any_eq_true.1 h1
      simp only [Bool.and_eq_true, decide_eq_true_eq] at hs2
      have hst := List.mem_range.1 hs1
      obtain ⟨o', ho', e, he, hb, hon⟩ := Region.waitsFor_spec hs2.2
      cases ho'.symm.trans hot
      have h2 := hall e he hb
      rw [hon, getD_both (inv.tail s hs2.1 (by omega))] at h2
      cases h2
    · have h2 := List.all_eq_true.1 h1 i (List.mem_range.2 hi)
      simp only [Bool.or_eq_true, decide_eq_true_eq] at h2
      rcases h2 with (h2 | h2) | h2
      · exact his h2
      · obtain ⟨o', ho', e, he, hb, hon⟩ := Region.waitsFor_spec h2
        cases ho'.symm.trans hot
        have h3 := hall e he hb
        rw [hon, getD_both hopen] at h3
        cases h3
      · obtain ⟨j, hj, hj2⟩ := List.any_eq_true.1 h2
        simp only [Bool.and_eq_true, decide_eq_true_eq] at hj2
        have hjn := List.mem_range.1 hj
        obtain ⟨oj, hoj, e, he, hb, hon⟩ := Region.waitsFor_spec hj2.2
        cases hl : listed.getD j false with
        | true =>
          have h3 := inv.closed j oj hoj hl e he hb
          rw [hon, getD_both hopen] at h3
          cases h3
        | false =>
          have hjs : j < ops.size := (Array.getElem?_eq_some_iff.1 hoj).1
          exact ih (n - j) (by have := hj2.1.1; omega) j rfl hjn hj2.1.2 (getD_in (by rw [inv.size]; omega) hl) hr

def wpAnyG (P : Program) (md : Region.Mode) (ops : Array Oper) (Q : Exit → Act → World → Prop) (S : World → Prop) (n : Nat) (L : Array Bool → Act → World → Prop) : Nat → Array Bool → Act → World → Prop
  | 0, listed, a, w => L listed a w
  | f + 1, listed, a, w => Region.ready md ops listed ≠ [] ∧ ∀ i ∈ Region.ready md ops listed, i < n ∧ wpOp P ops Q i (fun a' w' => S w' ∧ wpAnyG P md ops Q S n L f (listed.setIfInBounds i true) a' w') a w

theorem wpAny_of_G {n g : Nat} {L : Array Bool → Act → World → Prop} (hL : ∀ listed a w, L listed a w → wpAny P md ops Q g listed a w) :
    ∀ (f : Nat) (listed : Array Bool) (a : Act) (w : World), wpAnyG P md ops Q S n L f listed a w → wpAny P md ops Q (f + g) listed a w
  | 0, listed, a, w, h => by rw [Nat.zero_add]; exact hL _ _ _ h
  | f + 1, listed, a, w, h => by
    rw [show f + 1 + g = (f + g) + 1 by omega]
    exact ⟨fun h0 => absurd h0 h.1, fun i hi => wpOp_mono (fun a' w' h' => wpAny_of_G hL f _ a' w' h'.2) (h.2 i hi).2⟩

theorem firstG {n s0 i : Nat} {oi : Oper} {v : Value} {L : Array Bool → Act → World → Prop} (hi : ops[i]? = some oi) (hsel : ∀ (j : Nat) (o : Oper) cs b, ops[j]? = some o → o.op ≠ .select cs b)
    (hQ : ∀ c a w, Q (.panic c) (a.put oi.dst v) w → Q (.panic c) a w) (hc : tailB md ops n s0 = true) (hin : i < n) (his : i ≠ s0) (hdone : ∀ listed a w, L listed a w → ∀ j ∈ Region.ready md ops listed, n ≤ j) :
    ∀ (f : Nat) (listed : Array Bool) (a : Act) (w : World), HeadInv md ops n listed →
      (∀ j oj, ops[j]? = some oj → j ≠ i → listed.getD j true = false → (∀ e ∈ oj.after, Region.binds md e = true → e.on ≠ i) → oi.apart ops oj = true) →
      i ∈ Region.ready md ops listed → YieldsIf P ops S oi v a → S w →
      wpAnyG P md ops Q S n L f (listed.setIfInBounds i true) (a.put oi.dst v) w → wpAnyG P md ops Q S n L (f + 1) listed a w := by
  have low : ∀ listed, HeadInv md ops n listed → i ∈ Region.ready md ops listed → ∀ j ∈ Region.ready md ops listed, j < n := fun listed inv hr j hj => by
    rcases Nat.lt_or_ge j n with h | h
    · exact h
    · exact absurd hj (shut_tail hc inv h _ i rfl hin his (mem_ready.1 hr).1)
  intro f
  induction f with
  | zero =>
    intro listed a w inv _ hr hy hS H
    refine ⟨fun h => (by rw [h] at hr; cases hr), fun j hj => ⟨low listed inv hr j hj, ?_⟩⟩
    rcases Decidable.em (j = i) with rfl | hji
    · exact hy.wpOp hi hS ⟨hS, H⟩
    · have := hdone _ _ _ H j (ready_mono hj hji)
      have := low listed inv hr j hj
      omega
  | succ f ih =>
    intro listed a w inv hfree hr hy hS H
    refine ⟨fun h => (by rw [h] at hr; cases hr), fun j hj => ⟨low listed inv hr j hj, ?_⟩⟩
    rcases Decidable.em (j = i) with rfl | hji
    · exact hy.wpOp hi hS ⟨hS, H⟩
    · obtain ⟨hjo, oj, hoj, hall⟩ := mem_ready.1 hj
      have hno : ∀ e ∈ oj.after, Region.binds md e = true → e.on ≠ i := fun e he hb heq => by
        have h1 := hall e he hb
        rw [heq, getD_both (mem_ready.1 hr).1] at h1
        cases h1
      refine wpOp_mono (fun a' w' h3 => ⟨h3.2.1, ih _ a' w' (inv.set hj (low listed inv hr j hj)) (fun k ok hk hki hko hkn => hfree k ok hk hki ?_ hkn) (ready_mono hr (Ne.symm hji)) h3.1 h3.2.1 ?_⟩)
        (wpOp_putIf hoj (hfree j oj hoj hji hjo hno) (fun cs b => hsel i oi cs b hi) (fun cs b => hsel j oj cs b hoj) hQ hy (H.2 j (ready_mono hj hji)).2)
      · rcases Decidable.em (j = k) with rfl | hjk
        · exact hjo
        · rwa [getD_set_ne true hjk] at hko
      · rw [Array.setIfInBounds_comm _ _ hji]
        exact h3.2.2

/-- the head, in the order of the text: 'true': it yields under S; 'false': it stands alone and keeps S -/
def wpG (P : Program) (ops : Array Oper) (Q : Exit → Act → World → Prop) (S : World → Prop) (K : Act → World → Prop) : List Bool → List Oper → Act → World → Prop
  | true :: ks, o :: l, a, w => ∃ v, YieldsIf P ops S o v a ∧ wpG P ops Q S K ks l (a.put o.dst v) w
  | false :: ks, o :: l, a, w => ∀ K' : Act → World → Prop, (∀ a' w', S w' → Veil (wpG P ops Q S K ks l a' w') → K' a' w') → o.wp P a w K' Q
  | _, _, a, w => K a w
def lexG (md : Region.Mode) (ops : Array Oper) (n s0 : Nat) (target : Array Bool) : List (Bool × Nat) → Array Bool → Bool
  | [], listed => decide (listed = target) && (Region.ready md ops listed).all fun j => decide (n ≤ j)
  | (true, k) :: ks, listed => decide (k < n) && decide (k ≠ s0) && (Region.ready md ops listed).contains k && Region.free md ops listed k && lexG md ops n s0 target ks (listed.setIfInBounds k true)
  | (false, k) :: ks, listed => decide (k < n) && decide (Region.ready md ops listed = [k]) && (match ops[k]? with | some o => o.guard.isNone | none => false) && lexG md ops n s0 target ks (listed.setIfInBounds k true)

theorem headG {n s0 : Nat} {target : Array Bool} {K : Act → World → Prop} (hsel : Region.noSelect ops = true) (hQ : ∀ c a w, ∀ (d : Nat) (v : Value), Q (.panic c) (a.put (some d) v) w → Q (.panic c) a w) (hc : tailB md ops n s0 = true) :
    ∀ (ks : List (Bool × Nat)) (l : List Oper) (listed : Array Bool) (a : Act) (w : World), l.map some = ks.map (fun p => ops[p.2]?) → HeadInv md ops n listed →
    lexG md ops n s0 target ks listed = true → S w → wpG P ops Q S K (ks.map (·.1)) l a w →
    wpAnyG P md ops Q S n (fun listed' a' w' => (listed' = target ∧ ∀ j ∈ Region.ready md ops listed', n ≤ j) ∧ K a' w') ks.length listed a w
  | [], l, listed, a, w, hl, _, hB, _, h => by
    have : l = [] := by simpa using hl
    subst this
    simp only [lexG, Bool.and_eq_true, decide_eq_true_eq] at hB
    exact ⟨⟨hB.1, fun j hj => by simpa using List.all_eq_true.1 hB.2 j hj⟩, h⟩
  | b :: ks, [], _, _, _, hl, _, _, _, _ => by simp at hl
  | (true, k) :: ks, o :: l, listed, a, w, hl, inv, hB, hS, h => by
    simp only [List.map_cons, List.cons.injEq] at hl
    have h0 : ops[k]? = some o := hl.1.symm
    simp only [lexG, Bool.and_eq_true, decide_eq_true_eq] at hB
    obtain ⟨⟨⟨⟨hkn, hks⟩, hr⟩, hf⟩, hB'⟩ := hB
    have hr' : k ∈ Region.ready md ops listed := by simpa using hr
    obtain ⟨v, hy, hK⟩ := h
    exact firstG h0 (Region.noSelect_spec hsel) (fun c a w => by
        cases hd : o.dst with
        | none => exact fun h => h
        | some d => exact hQ c a w d v) hc hkn hks (fun listed' a' w' hL => hL.1.2) ks.length listed a w inv (Region.free_spec h0 hf) hr' hy hS
      (headG hsel hQ hc ks l _ _ w hl.2 (inv.set hr' hkn) hB' hS hK)
  | (false, k) :: ks, o :: l, listed, a, w, hl, inv, hB, hS, h => by
    simp only [List.map_cons, List.cons.injEq] at hl
    have h0 : ops[k]? = some o := hl.1.symm
    simp only [lexG, Bool.and_eq_true, decide_eq_true_eq, h0] at hB
    obtain ⟨⟨⟨hkn, hr⟩, hg⟩, hB'⟩ := hB
    have hr' : k ∈ Region.ready md ops listed := by rw [hr]; simp
    refine ⟨fun h => (by rw [hr] at h; cases h), fun i hi => ?_⟩
    rw [hr] at hi
    have hik : i = k := by simpa using hi
    subst hik
    refine ⟨hkn, ?_⟩
    unfold wpOp
    have hgn : o.guard = none := by simpa using hg
    simp only [h0, Region.wanted, hgn, if_true]
    exact .inl (h _ (fun a' w' hS' h' => ⟨hS', headG hsel hQ hc ks l _ a' w' hl.2 (inv.set hr' hkn) hB' hS' h'.out⟩))

def growB (ops : Array Oper) (n s0 : Nat) (target start : Array Bool) (ks : List (Bool × Nat)) : Bool :=
  Region.noSelect ops && decide (n ≤ ops.size) && tailB .any ops n s0 && lexG .any ops n s0 target ks start

theorem inv0 (ops : Array Oper) (n : Nat) : HeadInv .any ops n (Array.replicate ops.size false) :=
  ⟨by simp, fun j oj _ hl => (by rw [getD_replicate_false] at hl; cases hl), fun t _ ht => getD_in (by simpa using ht) (getD_replicate_false _ _)⟩

theorem wpAny_grow {a : Act} {w : World} {l lo : List Oper} {start : Array Bool} {n f : Nat} (s0 : Nat) (ks : List (Bool × Nat)) (target : Array Bool) (S : World → Prop) (inv : HeadInv .any l.toArray n start) (hB : growB l.toArray n s0 target start ks = true)
    (hlo : lo.map some = ks.map (fun p => l.toArray[p.2]?)) (hf : f = ks.length + (l.length - n)) (hQ : ∀ c a w, ∀ (d : Nat) (v : Value), Q (.panic c) (a.put (some d) v) w → Q (.panic c) a w)
    (hS : S w) (h : Veil (wpG P l.toArray Q S (fun a' w' => wpAny P .any l.toArray Q (l.length - n) target a' w') (ks.map (·.1)) lo a w)) :
    wpAny P .any l.toArray Q f start a w := by
  simp only [growB, Bool.and_eq_true, decide_eq_true_eq] at hB
  obtain ⟨⟨⟨hsel, hn⟩, hc⟩, hlex⟩ := hB
  have H := headG (md := .any) hsel hQ hc ks lo _ a w hlo inv hlex hS h.out
  have := wpAny_of_G (g := l.length - n) (fun listed a' w' hL => by rw [hL.1.1]; exact hL.2) _ _ _ _ H
  rw [hf]
  exact this

theorem wp_region_grow {id : Nat} {a : Act} {w : World} {l : List Oper} (ks : List (Bool × Nat)) (n : Nat) (target : Array Bool) (S : World → Prop) (hm : P.follows .mixedOrders = true) (hB : growB l.toArray n l.length target (Array.replicate l.toArray.size false) ks = true)
    (hn : (ks.length == n && decide (n ≤ l.length)) = true) (hlo : (l.take n).map some = ks.map (fun p => l.toArray[p.2]?))
    (hQ : ∀ c a w, ∀ (d : Nat) (v : Value), Q (.panic c) (a.put (some d) v) w → Q (.panic c) a w)
    (hS : S w.drew) (h : Veil (wpG P l.toArray Q S (fun a' w' => wpAny P .any l.toArray Q (l.length - n) target a' w') (ks.map (·.1)) (l.take n) a w.drew)) :
    (Code.region id l.toArray true).wp P Q a w := by
  simp only [Bool.and_eq_true, beq_iff_eq, decide_eq_true_eq] at hn
  exact wp_region_any hm (wpAny_grow l.length ks target S (inv0 _ _) hB hlo (by rw [hn.1]; simp; omega) hQ hS h)

/-- the same, where operation s0 of the head looks at no memory and the tail does not wait for it -/
theorem wp_region_grow1 {id : Nat} {a : Act} {w : World} {l : List Oper} (s0 : Nat) (o : Oper) (ho : l.toArray[s0]? = some o) (v : Value) (ks : List (Bool × Nat)) (n : Nat) (target : Array Bool) (S : World → Prop) (hm : P.follows .mixedOrders = true)
    (hB : growB l.toArray n s0 target ((Array.replicate l.toArray.size false).setIfInBounds s0 true) ks = true)
    (hn : (ks.length + 1 == n && decide (n ≤ l.length) && decide (s0 < n) && Region.free .any l.toArray (Array.replicate l.toArray.size false) s0 && (Region.ready .any l.toArray (Array.replicate l.toArray.size false)).contains s0) = true) (hlo : (l.take s0 ++ (l.drop (s0 + 1)).take (n - (s0 + 1))).map some = ks.map (fun p => l.toArray[p.2]?))
    (hQ : ∀ c a w, ∀ (d : Nat) (v : Value), Q (.panic c) (a.put (some d) v) w → Q (.panic c) a w)
    (hw : Region.wanted o (yielded l.toArray a.tmps) = true) (hy : ∀ w, (execOp a.eval o).run P w = .ok (.value v) w)
    (hS : S w.drew) (h : Veil (wpG P l.toArray Q S (fun a' w' => wpAny P .any l.toArray Q (l.length - n) target a' w') (ks.map (·.1)) (l.take s0 ++ (l.drop (s0 + 1)).take (n - (s0 + 1))) (a.put o.dst v) w.drew)) :
    (Code.region id l.toArray true).wp P Q a w := by
  simp only [Bool.and_eq_true, beq_iff_eq, decide_eq_true_eq] at hn
  obtain ⟨⟨⟨⟨h1, h2⟩, h3⟩, h4⟩, h5⟩ := hn
  refine wp_region_any hm ?_
  have hsz : l.toArray.size = (ks.length + (l.length - n)) + 1 := by simp; omega
  have hB' := hB
  simp only [growB, Bool.and_eq_true, decide_eq_true_eq] at hB'
  have hr : s0 ∈ Region.ready .any l.toArray (Array.replicate l.toArray.size false) := by simpa using h5
  have := wpAny_take (md := .any) (Q := Q) (fuel := ks.length + (l.length - n)) (listed := Array.replicate l.toArray.size false) (a := a) (w := w.drew) ho hB'.1.1.1 h4 h5 (fun c a w => by
    cases hd : o.dst with
    | none => exact fun h => h
    | some d => exact hQ c a w d v) (.inl ⟨hw, hy⟩) (wpAny_grow s0 ks target S ((inv0 l.toArray n).set hr h3) hB hlo rfl hQ hS h)
  rwa [← hsz] at this

/-- a tail that is forced -/
theorem wpAny_forced {a : Act} {w : World} {l : List Oper} {n : Nat} {target : Array Bool} (hB : Region.seqB .any l.toArray (l.length - n) n target = true) (h : wpList P l.toArray Q (l.drop n) a w) :
    wpAny P .any l.toArray Q (l.length - n) target a w := by
  have := wpAny_of_seq (md := .any) (Q' := Q) (l.drop n) n target a w (fun j => by simp [List.getElem?_drop]) (by simpa using hB) h
  simpa using this
/-- a tail of two addresses and two stores: the second address may come up ahead of the first store; it looks at no memory -/
def swapB (ops : Array Oper) (n : Nat) (target : Array Bool) : Bool :=
  Region.noSelect ops && Region.free .any ops target (n + 2) && (Region.ready .any ops target).contains (n + 2) &&
  decide (Region.ready .any ops (target.setIfInBounds (n + 2) true) = [n]) &&
  decide (Region.ready .any ops ((target.setIfInBounds (n + 2) true).setIfInBounds n true) = [n + 1]) &&
  decide (Region.ready .any ops (((target.setIfInBounds (n + 2) true).setIfInBounds n true).setIfInBounds (n + 1) true) = [n + 3]) &&
  decide (Region.ready .any ops ((((target.setIfInBounds (n + 2) true).setIfInBounds n true).setIfInBounds (n + 1) true).setIfInBounds (n + 3) true) = [])
theorem wpOp_of_wpList {i : Nat} {o : Oper} {rest : List Oper} {K : Act → World → Prop} {a : Act} {w : World} (hi : ops[i]? = some o) (hK : ∀ a w, wpList P ops Q rest a w → K a w) (h : wpList P ops Q (o :: rest) a w) : wpOp P ops Q i K a w :=
  wpOp_mono hK (by unfold wpOp; simp only [hi]; exact h)
theorem wpAny_one {i : Nat} {o : Oper} {rest : List Oper} {f : Nat} {listed : Array Bool} {a : Act} {w : World} (hi : ops[i]? = some o) (hr : Region.ready md ops listed = [i])
    (hK : ∀ a w, wpList P ops Q rest a w → wpAny P md ops Q f (listed.setIfInBounds i true) a w) (h : wpList P ops Q (o :: rest) a w) : wpAny P md ops Q (f + 1) listed a w :=
  wpAny_all hr (by simp) (fun j hj => by
    have : j = i := by simpa using hj
    subst this
    exact wpOp_of_wpList hi hK h)
theorem wpAny_swap {a : Act} {w : World} {l : List Oper} {n : Nat} {target : Array Bool} {o0 o1 o2 o3 : Oper} (hB : swapB l.toArray n target = true) (hl : l.length - n = 4) (e0 : l[n]? = some o0) (e1 : l[n + 1]? = some o1) (e2 : l[n + 2]? = some o2) (e3 : l[n + 3]? = some o3)
    (hQ : ∀ c a w, ∀ (d : Nat) (v : Value), Q (.panic c) (a.put (some d) v) w → Q (.panic c) a w) (v : Value) (hw : Region.wanted o2 (yielded l.toArray a.tmps) = true) (hy : ∀ w, (execOp a.eval o2).run P w = .ok (.value v) w)
    (h : wpList P l.toArray Q [o0, o1, o3] (a.put o2.dst v) w) : wpAny P .any l.toArray Q (l.length - n) target a w := by
  simp only [swapB, Bool.and_eq_true, decide_eq_true_eq] at hB
  obtain ⟨⟨⟨⟨⟨⟨hsel, hf⟩, hr⟩, r1⟩, r2⟩, r3⟩, r4⟩ := hB
  rw [hl]
  refine wpAny_take (i := n + 2) (oi := o2) (v := v) (by simpa using e2) hsel hf hr (fun c a w => by
    cases hd : o2.dst with
    | none => exact fun h => h
    | some d => exact hQ c a w d v) (.inl ⟨hw, hy⟩) ?_
  refine wpAny_one (by simpa using e0) r1 (fun a w h => ?_) h
  refine wpAny_one (by simpa using e1) r2 (fun a w h => ?_) h
  refine wpAny_one (by simpa using e3) r3 (fun a w h => ?_) h
  exact ⟨r4, h⟩
end

section
variable {P : Program} {ops : Array Oper} {Q : Exit → Act → World → Prop} {S : World → Prop} {K : Act → World → Prop} {ks : List Bool} {l : List Oper} {o : Oper} {a : Act} {w : World}
theorem veilG_take (v : Value) (hw : Region.wanted o (yielded ops a.tmps) = true) (hr : ∀ w', S w' → (execOp a.eval o).run P w' = .ok (.value v) w') (h : Veil (wpG P ops Q S K ks l (a.put o.dst v) w)) : Veil (wpG P ops Q S K (true :: ks) (o :: l) a w) :=
  ⟨⟨v, .inl ⟨hw, hr⟩, h.out⟩⟩
theorem veilG_solo (h : ∀ K' : Act → World → Prop, (∀ a' w', S w' → Veil (wpG P ops Q S K ks l a' w') → K' a' w') → o.wp P a w K' Q) : Veil (wpG P ops Q S K (false :: ks) (o :: l) a w) := ⟨h⟩
theorem veilG_nil (h : K a w) : Veil (wpG P ops Q S K [] [] a w) := ⟨h⟩
end
end Go.Proofs.Ytnofckgnnpmiiaa
