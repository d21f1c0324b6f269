/- One pass of Sort: neighbouring runs merged; over any elements. -/
import Derived.Test.YtnofckgnnpmiiaaBl
import Derived.Test.YtnofckgnnpmiiaaOw
import Derived.Test.YtnofckgnnpmiiaaMr
namespace Go.Proofs.Ytnofckgnnpmiiaa
open Go.RowKit Go.Shelf

/-- the j-th two runs of m elements each, merged -/
def mergedAt {α : Type} (c : α → α → Int) (m : Nat) (xs : List α) (j : Nat) : List α := mergeL c ((xs.drop (j * (2 * m))).take m) ((xs.drop (j * (2 * m) + m)).take m)
/-- all of them -/
def passL {α : Type} (c : α → α → Int) (m : Nat) (xs : List α) (k : Nat) : List α := (List.range k).flatMap (mergedAt c m xs)
theorem mergedAt_len {α : Type} (c : α → α → Int) (m : Nat) (xs : List α) (j : Nat) : (mergedAt c m xs j).length = min (2 * m) (xs.length - j * (2 * m)) := by
  rw [mergedAt, mergeL_len, List.length_take, List.length_drop, List.length_take, List.length_drop]
  omega
theorem Pc.to_fr {len size : Nat} (j : Pc len size) : j.to - j.fr = min size (len - j.1 * size) ∧ j.fr < len ∧ j.fr ≤ j.to ∧ j.to ≤ len := by
  have := j.2
  unfold Pc.to Pc.fr
  split <;> omega
theorem mergedAt_len' {α : Type} (c : α → α → Int) (m : Nat) (xs : List α) (j : Pc xs.length (2 * m)) : (mergedAt c m xs j.1).length = j.to - j.fr := by
  rw [mergedAt_len, j.to_fr.1]
/-- how much is compared at most -/
def cost {len size : Nat} (pre : List (Pc len size)) : Nat := (pre.map fun j => j.to - j.fr).sum
theorem cost_snoc {len size : Nat} (pre : List (Pc len size)) (j : Pc len size) : cost (pre ++ [j]) = cost pre + (j.to - j.fr) := by simp [cost]
theorem passL_succ {α : Type} (c : α → α → Int) (m : Nat) (xs : List α) (k : Nat) : passL c m xs (k + 1) = passL c m xs k ++ mergedAt c m xs k := by simp [passL, List.range_succ]
theorem passL_len {α : Type} (c : α → α → Int) (m : Nat) (xs : List α) : ∀ k, (passL c m xs k).length = min (k * (2 * m)) xs.length
  | 0 => by simp [passL]
  | k + 1 => by
    rw [passL_succ, List.length_append, passL_len c m xs k, mergedAt_len, Nat.add_mul]
    omega
theorem cost_upto {len size : Nat} : ∀ (k : Nat) (pre : List (Pc len size)), pre.map (·.1) = List.range k → cost pre = min (k * size) len
  | 0, pre, h => by
    have : pre = [] := List.map_eq_nil_iff.1 (h.trans List.range_zero)
    subst this; simp [cost]
  | k + 1, pre, h => by
    rw [List.range_succ] at h
    obtain ⟨p, l, rfl, h1, h2⟩ := List.map_eq_append_iff.1 h
    obtain ⟨j, rfl, hj⟩ : ∃ j, l = [j] ∧ j.1 = k := by
      cases l with
      | nil => simp at h2
      | cons j r => rw [List.map_cons, List.cons.injEq] at h2; exact ⟨j, by rw [List.map_eq_nil_iff.1 h2.2], h2.1⟩
    rw [cost_snoc, cost_upto k p h1, j.to_fr.1, hj, Nat.add_mul]
    have := j.2; rw [hj] at this
    omega
theorem cost_all {len size : Nat} {pre : List (Pc len size)} (h : Pc.all pre) : cost pre = len := by rw [cost_upto _ _ h.1]; have := h.2; omega

/-- whatever cell lay lies -/
def CK (W W' : World) : Prop := ∀ a v, W.cell? a = some v → W'.cell? a = some v ∧ W'.frozen? a = W.frozen? a
theorem CK.of_grown {W W' : World} {row : Option Nat} (hg : W.grownBy W' row) (hr : ∀ r, row = some r → ∃ o : Obj, W.heap[r]? = some o ∧ o.isCells = false) : CK W W' := fun a v h => by
  have hlt := World.block_lt_of_cell? W a h
  have hne : some a.block ≠ row := fun e => by
    obtain ⟨o, ho, hc⟩ := hr _ e.symm
    unfold World.cell? at h
    rw [ho] at h
    cases o <;> simp [Obj.isCells] at h hc
  have hb := hg.block a.block hlt hne
  exact ⟨(World.cell?_of_block (w := W) hb).trans h, World.frozen?_of_block hb⟩
theorem CK.range {W W' : World} (h : CK W W') {b o : Nat} {cs : List Value} (hc : W.rangeAt b o cs) : W'.rangeAt b o cs := fun j v hv => (h _ _ (hc j v hv)).1
theorem CK.there {W W' : World} (h : CK W W') {b o n : Nat} (hc : W.there b o n) : W'.there b o n := fun j hj => by
  obtain ⟨h1, h2⟩ := hc j hj
  obtain ⟨u, hu⟩ := Option.isSome_iff_exists.1 h1
  obtain ⟨h3, h4⟩ := h _ _ hu
  exact ⟨by rw [h3]; rfl, h4.trans h2⟩
theorem CK.sl {α : Type} {E : El α} {W W' : World} {A : Option Addr} {c : Nat} {xs : List α} (h : CK W W') (k : Sl E W A c xs) : Sl E W' A c xs :=
  ⟨k.le, k.cap, fun hx => let ⟨b, o, hA, hr⟩ := k.at_ hx; ⟨b, o, hA, h.range hr⟩⟩
theorem CK.ow {α : Type} {E : El α} {W W' : World} {A : Option Addr} {c : Nat} {xs : List α} (h : CK W W') (k : Ow E W A c xs) : Ow E W' A c xs :=
  ⟨h.sl k.sl, fun hx => let ⟨b, o, hA, hr⟩ := k.room hx; ⟨b, o, hA, h.there hr⟩⟩
theorem Keep.grown {S : Nat → Prop} {w W W' : World} {row : Option Nat} (h : Keep S w W) (hg : W.grownBy W' row) (hr : ∀ r, row = some r → w.heap.size ≤ r) : Keep S w W' :=
  ⟨hg.os.trans h.os, hg.tape.trans h.tape, hg.output.trans h.output, Nat.le_trans h.size hg.size, fun k hk hS =>
    (hg.block k (Nat.lt_of_lt_of_le hk h.size) (fun e => by have := hr k e.symm; omega)).trans (h.block k hk hS)⟩

/-- What holds behind each round of a pass: over the world W0 at its begin. -/
structure PI {α : Type} (E : El α) (c : α → α → Int) (S : Nat → Prop) (I : Nat → World → Prop) (n m b3 b5 b6 b7 : Nat) (f : Value) (O : Option Addr) (co bs os cs len : Nat) (xs : List α) (W0 : World) (pre : List (Pc len (2 * m))) (W : World) : Prop where
  c3 : W.cell? ⟨b3, 0, none⟩ = some f
  ln : xs.length = len
  c5 : W.cell? ⟨b5, 0, none⟩ = some (.slice O len co)
  c6 : W.cell? ⟨b6, 0, none⟩ = some (.slice (some ⟨bs, os, none⟩) len cs)
  c7 : W.cell? ⟨b7, 0, none⟩ = some (.int .i64 m)
  so : Sl E W O co xs
  th : W.there bs os (len * E.sz)
  done : ∀ j ∈ pre, W.rangeAt bs (os + j.fr * E.sz) (E.flat (mergedAt c m xs j.1))
  keep : Keep (fun k => S k ∨ k = bs) W0 W
  more : ∀ o' n', W0.there bs o' n' → W.there bs o' n'
  q : ∃ q, q ≤ cost pre ∧ I (n + q) W

section
variable {α : Type} {E : El α} {c : α → α → Int} {S : Nat → Prop} {I : Nat → World → Prop} {n m b3 b5 b6 b7 B : Nat} {f : Value} {O : Option Addr} {co bs os cs len : Nat} {xs : List α} {W0 : World}
theorem PI.own (hB : B ≤ W0.heap.size) (hst : ∀ n w w', I n w → Below B w w' → I n w') : OwnFrom W0.heap.size (PI E c S I n m b3 b5 b6 b7 f O co bs os cs len xs W0) := by
  intro pre W W' row h hg hr
  have hck := CK.of_grown hg (fun r e => (hr r e).2)
  obtain ⟨q, hq, hI⟩ := h.q
  refine ⟨(hck _ _ h.c3).1, h.ln, (hck _ _ h.c5).1, (hck _ _ h.c6).1, (hck _ _ h.c7).1, hck.sl h.so, hck.there h.th, fun j hj => hck.range (h.done j hj), h.keep.grown hg (fun r e => (hr r e).1), fun o' n' ht => hck.there (h.more _ _ ht), q, hq, hst _ _ _ hI ?_⟩
  exact (Below.refl B W).grown hg (Nat.le_trans hB h.keep.size) (fun k e => Nat.le_trans hB (hr k e).1)

/-- one round more -/
theorem PI.round {pre : List (Pc len (2 * m))} {W W' : World} (h : PI E c S I n m b3 b5 b6 b7 f O co bs os cs len xs W0 pre W) (j : Pc len (2 * m))
    (h3 : ¬ (S b3 ∨ b3 = bs)) (h5 : ¬ (S b5 ∨ b5 = bs)) (h6 : ¬ (S b6 ∨ b6 = bs)) (h7 : ¬ (S b7 ∨ b7 = bs)) (hO : ¬ InB (fun k => S k ∨ k = bs) O)
    (hr : W'.rangeAt bs (os + j.fr * E.sz) (E.flat (mergedAt c m xs j.1))) (hf : Fill S bs (os + j.fr * E.sz) ((mergedAt c m xs j.1).length * E.sz) W W') {q p : Nat} (hq1 : q ≤ cost pre) (hp : p ≤ (mergedAt c m xs j.1).length) (hI' : I (n + q + p) W') :
    PI E c S I n m b3 b5 b6 b7 f O co bs os cs len xs W0 (pre ++ [j]) W' := by
  obtain rfl := h.ln
  refine ⟨hf.keep.cell h.c3 h3, rfl, hf.keep.cell h.c5 h5, hf.keep.cell h.c6 h6, hf.keep.cell h.c7 h7, h.so.keep hf.keep hO, hf.there _ _ h.th, fun i hi => ?_, h.keep.then_ hf.keep, fun o' n' ht => hf.there _ _ (h.more _ _ ht), q + p, ?_, by rw [← Nat.add_assoc]; exact hI'⟩
  · rcases List.mem_append.1 hi with hi | hi
    · by_cases e : i = j
      · subst e; exact hr
      · refine hf.rest _ _ (h.done i hi) ?_
        have hl := mergedAt_len c m xs i.1
        have hl2 := mergedAt_len c m xs j.1
        rw [E.flat_len]
        have hne : i.1 ≠ j.1 := fun h => e (Subtype.ext h)
        rcases Nat.lt_or_gt_of_ne hne with hlt | hlt
        · left
          have h1 : i.1 * (2 * m) + 2 * m ≤ j.1 * (2 * m) := by
            have := Nat.mul_le_mul_right (2 * m) (show i.1 + 1 ≤ j.1 by omega)
            rwa [Nat.add_mul, Nat.one_mul] at this
          have h2 : i.fr + (mergedAt c m xs i.1).length ≤ j.fr := by unfold Pc.fr; omega
          have := Nat.mul_le_mul_right E.sz h2
          rw [Nat.add_mul] at this
          omega
        · right
          have h1 : j.1 * (2 * m) + 2 * m ≤ i.1 * (2 * m) := by
            have := Nat.mul_le_mul_right (2 * m) (show j.1 + 1 ≤ i.1 by omega)
            rwa [Nat.add_mul, Nat.one_mul] at this
          have h2 : j.fr + (mergedAt c m xs j.1).length ≤ i.fr := by unfold Pc.fr; omega
          have := Nat.mul_le_mul_right E.sz h2
          rw [Nat.add_mul] at this
          omega
    · simp at hi; subst hi; exact hr
  · rw [cost_snoc, ← mergedAt_len' c m xs j]; omega
/-- the pass is over -/
theorem PI.over {ys : List (Pc len (2 * m))} {W : World} (h : PI E c S I n m b3 b5 b6 b7 f O co bs os cs len xs W0 ys W) (hall : Pc.all ys) : W.rangeAt bs os (E.flat (passL c m xs ys.length)) := by
  obtain rfl := h.ln
  have key : ∀ k, k ≤ ys.length → W.rangeAt bs os (E.flat (passL c m xs k)) := by
    intro k
    induction k with
    | zero => intro _; exact range_nil _ _ _
    | succ k ih =>
      intro hk
      rw [passL_succ, E.flat_app, range_app]
      refine ⟨ih (by omega), ?_⟩
      have hlt : k < ys.length := by omega
      have hv : (ys[k]).1 = k := by
        have := congrArg (fun l => l[k]?) hall.1
        simp only [List.getElem?_map, List.getElem?_eq_getElem hlt, Option.map_some, List.getElem?_range hlt] at this
        exact Option.some.inj this
      have hd := h.done ys[k] (List.getElem_mem hlt)
      have hj := ys[k].2
      rw [hv] at hj
      unfold Pc.fr at hd
      rw [hv] at hd
      rw [E.flat_len, passL_len, Nat.min_eq_left (by omega)]
      exact hd
  exact key _ (Nat.le_refl _)
end
end Go.Proofs.Ytnofckgnnpmiiaa
