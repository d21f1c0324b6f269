/- An append says where it wrote: in place, or all in new memory. Families of lists, each in memory of its own. -/
import Derived.Test.YtnofckgnnpmiiaaSn
namespace Go.Proofs.Ytnofckgnnpmiiaa
open Go.RowKit Go.Shelf

theorem Ow.keep2 {α : Type} {E : El α} {w w1 : World} {A : Option Addr} {c : Nat} {xs : List α} {S : Nat → Prop} (h : Ow E w A c xs) (k : Keep S w w1) (hs : 0 < c → ¬ InB S A) : Ow E w1 A c xs := by
  by_cases hc : 0 < c
  · exact h.keep k (hs hc)
  · have hx0 : xs = [] := List.eq_nil_of_length_eq_zero (by have := h.sl.le; omega)
    subst hx0
    exact ⟨Sl.nil_ E _ _ h.sl.cap, fun h => absurd h hc⟩
theorem Ow.take {α : Type} {E : El α} {w : World} {A : Option Addr} {c : Nat} {xs : List α} (h : Ow E w A c xs) (k : Nat) : Ow E w A c (xs.take k) := ⟨h.sl.take k, h.room⟩
theorem Ow.front {α : Type} {E : El α} {w : World} {A : Option Addr} {c : Nat} {xs ys : List α} (h : Ow E w A c (xs ++ ys)) : Ow E w A c xs := by
  have := h.take xs.length
  rwa [List.take_left] at this

section
variable {P : Program}
/-- What an append answers, and where it wrote. -/
structure Appended2 {α : Type} (E : El α) (w : World) (A : Option Addr) (c : Nat) (zs : List α) (A' : Option Addr) (c' : Nat) (w' : World) : Prop where
  ow : Ow E w' A' c' zs
  where_ : (A' = A ∧ c' = c ∧ 0 < c ∧ Keep (AtB A) w w') ∨ ((∀ a, A' = some a → a.block = w.heap.size) ∧ w.heap.size < w'.heap.size ∧ Keep (fun _ => False) w w')

theorem run_append_one {α : Type} (E : El α) (w : World) (t ty e : TypeId) (z : Value) (bytes : Nat) (ht : P.underlying t = some (.slice e)) (hinfo : (P.info? e).map (fun i => (i.zero, i.size, i.bytes)) = some (some z, E.sz, bytes)) (hz : z.cells.size = E.sz)
    {A A2 : Option Addr} {c c2 : Nat} {xs ys : List α} (hx : Ow E w A c xs) (hy : Sl E w A2 c2 ys) (hpos : 0 < ys.length) (hb : (xs.length + ys.length) * bytes ≤ 140737488355328) (h63 : xs.length + ys.length ≤ 9223372036854775807) :
    ∃ A' c' w', (Builtin.append_ #[t, t] ty #[.slice A xs.length c, .slice A2 ys.length c2]).run P w = .ok (.slice A' (xs.length + ys.length) c') w' ∧ Appended2 E w A c (xs ++ ys) A' c' w' := by
  obtain ⟨i, hi, hz0, hsz, hby⟩ := info_parts hinfo
  by_cases hroom : xs.length + ys.length ≤ c
  · have hc : 0 < c := by omega
    obtain ⟨b, o, rfl, hth⟩ := hx.room hc
    have hthn : w.there b (o + xs.length * E.sz) (ys.length * E.sz) := there_sub hth (by omega) (by rw [Nat.add_assoc, ← Nat.add_mul]; exact Nat.add_le_add_left (Nat.mul_le_mul_right _ hroom) _)
    refine ⟨some ⟨b, o, none⟩, c, w.setCells b (o + xs.length * E.sz) (E.flat ys), ?_, ⟨hx.app hroom, .inl ⟨rfl, rfl, hc, (Keep.refl _ w).setCells _ _ (fun _ => ⟨_, rfl, rfl⟩)⟩⟩⟩
    have hr := run_append_in (P := P) w t ty e i ht hi b o xs.length c A2 ys.length c2 (E.flat ys) (by rw [E.flat_len, hsz])
      (fun hn => by
        obtain ⟨b', o', hA, hr⟩ := hy.at_ (by intro e; subst e; exact hn rfl)
        exact ⟨_, hA, fun j u hj => by rw [Addr.add_mid]; exact hr j u hj⟩) (E.flat_one ys) hroom (by rw [hsz, E.flat_len]; exact hthn)
    rw [hsz] at hr
    exact hr
  · have hge := grownCap_ge w (xs.length + ys.length) c e
    have hcm : grownCap w (xs.length + ys.length) c e ≤ 9223372036854775807 := by
      have := grownCap_le_maxLen w (xs.length + ys.length) c e (by unfold maxLen; omega)
      unfold maxLen at this; omega
    have hn : ¬ (xs.length + ys.length ≤ c) := hroom
    have h63' : ¬ (9223372036854775807 < ((xs.length : Int) + (ys.length : Int))) := by omega
    have hfit := growslice_fits (bytes := bytes) (show c < xs.length + ys.length by omega) hb
    have h48' : ¬ (281474976710656 < Builtin.nextslicecap (xs.length + ys.length) c * i.bytes) := by rw [hby]; omega
    have hk : Keep (fun _ => False) w w.drew := (Keep.refl _ w).drew
    have hf := firstCells_Sl (P := P) E (hy.keep hk (fun ⟨_, _, h⟩ => h))
    have hfo := firstCells_Sl (P := P) E (hx.sl.keep hk (fun ⟨_, _, h⟩ => h))
    refine ⟨some ⟨w.heap.size, 0, none⟩, grownCap w (xs.length + ys.length) c e, w.drew.alloc (.cells ((E.flat (xs ++ ys)).toArray ++ Builtin.zeroCells z.cells (grownCap w (xs.length + ys.length) c e - (xs.length + ys.length))) e), ?_, ⟨?_, .inr ⟨?_, by simp, ((Keep.refl _ w).drew).alloc _⟩⟩⟩
    · simp [Builtin.append_, run_underlying ht, sizeOf, typeInfo, zeroValue, hi, hz0, hsz, Builtin.lenOf, hn, h63', h48', Question.forced, hf, hfo, newRow, grownCap, El.flat_app]
      congr 2
      apply Array.ext'
      simp [List.append_assoc]
    · refine Ow.new_ E w.drew _ e _ _ (by rw [List.length_append]; exact hge) hcm ?_ ?_
      · rw [Array.size_append, List.size_toArray, E.flat_len, size_zeroCells, hz, List.length_append, ← Nat.add_mul]
        congr 1; omega
      · intro j v hj
        have hjl := (List.getElem?_eq_some_iff.1 hj).1
        rw [Array.getElem?_append_left (by simpa using hjl)]
        simpa using hj
    · intro a ha
      simp only [Option.some.injEq] at ha
      subst ha
      rfl
theorem wpList_append_two {α : Type} (E : El α) {w : World} {op : Oper} {ops : Array Oper} {rest : List Oper} {a : Act} {Q : Exit → Act → World → Prop} (hgd : op.guard = none) (s x : Operand) (t : TypeId)
    (ho : op.op = .call { callee := .builtin .append, args := #[s, x], argTypes := #[t, t] }) (e : TypeId) (z : Value) (bytes : Nat) (ht : P.underlying t = some (.slice e)) (hinfo : (P.info? e).map (fun i => (i.zero, i.size, i.bytes)) = some (some z, E.sz, bytes)) (hz : z.cells.size = E.sz)
    (A : Option Addr) (n c : Nat) (hs : a.eval s = .slice A n c) (xs : List α) (hn : xs.length = n) (hxs : Ow E w A c xs) (A2 : Option Addr) (m c2 : Nat) (hx : a.eval x = .slice A2 m c2) (ys : List α) (hm : ys.length = m) (hys : Sl E w A2 c2 ys) (hpos : 0 < m)
    (hb : (n + m) * bytes ≤ 140737488355328) (h63 : n + m ≤ 9223372036854775807)
    (h : ∀ A' c' w', Appended2 E w A c (xs ++ ys) A' c' w' → wpList P ops Q rest (a.put op.dst (.slice A' (n + m) c')) w') : wpList P ops Q (op :: rest) a w :=
  wpList_plain hgd fun _ hK => by
    subst hn; subst hm
    obtain ⟨A', c', w', hr, hap⟩ := run_append_one (P := P) E w t op.type e z bytes ht hinfo hz hxs hys hpos hb h63
    unfold Oper.wp execOp
    simp only [ho, resolve, invoke, builtin, Sem.run_bind, Sem.run_pure, Result.andThen_ok, List.map_toArray, List.map_cons, List.map_nil, hs, hx, hr]
    exact hK _ _ (h _ _ _ hap)
end

/-! ### families -/
/-- n lists, each in memory of its own, below B; list j reads as G j -/
structure Fam (w : World) (n B : Nat) (A : Nat → Option Addr) (C : Nat → Nat) (G : Nat → List Item) : Prop where
  ow : ∀ j, j < n → Ow EI w (A j) (C j) (G j)
  dis : ∀ i j, i < n → j < n → i ≠ j → 0 < C i → 0 < C j → ∀ a b, A i = some a → A j = some b → a.block ≠ b.block
  lt : ∀ j, j < n → 0 < C j → ∀ a, A j = some a → a.block < B
/-- the blocks of a family -/
def FamB (n : Nat) (A : Nat → Option Addr) (C : Nat → Nat) : Nat → Prop := fun k => ∃ j, j < n ∧ 0 < C j ∧ AtB (A j) k

/-- a change of one of them -/
theorem Fam.turn {w w' : World} {n B i : Nat} {A : Nat → Option Addr} {C : Nat → Nat} {G : Nat → List Item} (h : Fam w n B A C G) (hi : i < n) (hc : 0 < C i) (k : Keep (AtB (A i)) w w') {ys : List Item} (ho : Ow EI w' (A i) (C i) ys) :
    Fam w' n B A C (fun j => if j = i then ys else G j) := by
  refine ⟨fun j hj => ?_, h.dis, h.lt⟩
  by_cases e : j = i
  · subst e; simp only [if_true]; exact ho
  · simp only [e, if_false]
    refine (h.ow j hj).keep2 k (fun hcj ⟨a, ha, b, hb, he⟩ => ?_)
    exact h.dis i j hi hj (fun e' => e e'.symm) hc hcj b a hb ha he
theorem Fam.keep {w w' : World} {n B : Nat} {A : Nat → Option Addr} {C : Nat → Nat} {G : Nat → List Item} {S : Nat → Prop} (h : Fam w n B A C G) (k : Keep S w w') (hs : ∀ b, b < B → ¬ S b) : Fam w' n B A C G :=
  ⟨fun j hj => (h.ow j hj).keep2 k (fun hcj ⟨a, ha, hb⟩ => hs _ (h.lt j hj hcj a ha) hb), h.dis, h.lt⟩
theorem Fam.congr {w : World} {n B : Nat} {A : Nat → Option Addr} {C : Nat → Nat} {G G' : Nat → List Item} (h : Fam w n B A C G) (e : ∀ j, j < n → G j = G' j) : Fam w n B A C G' :=
  ⟨fun j hj => by rw [← e j hj]; exact h.ow j hj, h.dis, h.lt⟩
def mkL (j m : Nat) : List Item := (List.range m).map fun k : Nat => ((j : Int), 100000 + (k : Int))
theorem mkL_len (j m : Nat) : (mkL j m).length = m := by simp [mkL]
theorem mkL_succ (j m : Nat) : mkL j (m + 1) = mkL j m ++ [((j : Int), 100000 + (m : Int))] := by simp [mkL, List.range_succ]
theorem mkL_get (j m k : Nat) (h : k < m) : (mkL j m)[k]? = some ((j : Int), 100000 + (k : Int)) := by simp [mkL, h]
end Go.Proofs.Ytnofckgnnpmiiaa
