/- What was taken out of a bag so far, and what is left in it. Plain Lean. -/
import Derived.Test.YtnofckgnnpmiiaaAi
import Derived.Test.YtnofckgnnpmiiaaSh
namespace Go.Proofs.Ytnofckgnnpmiiaa

section
variable {c : Item → Item → Int} {κ : Item → Int}
theorem sorted_sorts (hk : Keyed c κ) {fs : List (Held Item)} {m : Int} {xs : List Item} (h1 : fs.Pairwise (leH c)) (h2 : fs.Perm (heldFrom m xs)) : Sorts κ xs (fs.map (·.1)) := by
  refine ⟨?_, fun v => ?_⟩
  · rw [List.pairwise_map]
    refine h1.imp (fun {a b} hab => ?_)
    rw [leH_iff hk] at hab
    omega
  · rw [← heldFrom_filter (κ := κ) v xs m, List.filter_map]
    have e : fs.filter ((fun a => κ a == v) ∘ (·.1)) = (heldFrom m xs).filter (fun a => κ a.1 == v) := by
      refine List.Perm.eq_of_pairwise (le := fun a b => a.2 ≤ b.2) ?_ ?_ ?_ (h2.filter _)
      · intro a b ha hb h3 h4
        exact heldFrom_inj xs m a b (h2.mem_iff.1 (List.mem_filter.1 ha).1) (List.mem_filter.1 hb).1 (by omega)
      · rw [List.pairwise_filter]
        refine h1.imp (fun {a b} hab ha hb => ?_)
        rw [leH_iff hk] at hab
        have ea : κ a.1 = v := by simpa using ha
        have eb : κ b.1 = v := by simpa using hb
        omega
      · exact ((heldFrom_up xs m).imp (fun {a b} hab => Int.le_of_lt hab)).filter _
    rw [e]
theorem heldFrom_app : ∀ (xs ys : List Item) (m : Int), heldFrom m (xs ++ ys) = heldFrom m xs ++ heldFrom (m + xs.length) ys
  | [], ys, m => by simp [heldFrom]
  | x :: xs, ys, m => by
    rw [List.cons_append, heldFrom, heldFrom, heldFrom_app xs ys (m + 1), List.cons_append, List.length_cons]
    congr 3
    omega

/-- a list in the order of c and of the numbers -/
theorem heldSort (hk : Keyed c κ) (cs : List (Held Item)) : ∃ zs : List (Held Item), zs.Pairwise (leH c) ∧ zs.Perm cs := by
  refine ⟨cs.mergeSort (fun x y => !aheadB c y x), ?_, List.mergeSort_perm _ _⟩
  have h := List.pairwise_mergeSort (le := fun x y : Held Item => !aheadB c y x) (fun a b d h1 h2 => ?_) (fun a b => ?_) cs
  · exact h.imp (fun {a b} hab => by simpa [leH] using hab)
  · have h1' : leH c a b := by simpa [leH] using h1
    have h2' : leH c b d := by simpa [leH] using h2
    have := h1'.trans hk h2'
    simpa [leH] using this
  · have : leH c a b ∨ leH c b a := by
      rw [leH_iff hk, leH_iff hk]
      omega
    simpa [leH] using this

/-- fo was taken, cs is left, of all -/
structure DT (c : Item → Item → Int) (fo cs all : List (Held Item)) : Prop where
  up : fo.Pairwise (leH c)
  perm : (fo ++ cs).Perm all
  le : ∀ x ∈ fo, ∀ y ∈ cs, leH c x y
theorem DT.start (all : List (Held Item)) : DT c [] all all := ⟨.nil, .refl _, fun _ h => by simp at h⟩
theorem DT.next {fo cs all : List (Held Item)} (h : DT c fo cs all) {z : Held Item} (hz : z ∈ cs) (hl : ∀ y ∈ cs, leH c z y) : DT c (fo ++ [z]) (cs.erase z) all := by
  refine ⟨?_, ?_, ?_⟩
  · rw [List.pairwise_append]
    refine ⟨h.up, List.pairwise_singleton _ _, fun a ha b hb => ?_⟩
    obtain rfl := List.mem_singleton.1 hb
    exact h.le a ha _ hz
  · rw [List.append_assoc]
    refine List.Perm.trans (List.Perm.append_left fo ?_) h.perm
    exact (List.perm_cons_erase hz).symm
  · intro x hx y hy
    have hy' := List.mem_of_mem_erase hy
    rcases List.mem_append.1 hx with hx | hx
    · exact h.le x hx y hy'
    · obtain rfl := List.mem_singleton.1 hx
      exact hl y hy'
theorem DT.done (hk : Keyed c κ) {fo : List (Held Item)} {m : Int} {xs : List Item} (h : DT c fo [] (heldFrom m xs)) : Sorts κ xs (fo.map (·.1)) :=
  sorted_sorts hk h.up (by have := h.perm; rwa [List.append_nil] at this)
theorem DT.first (hk : Keyed c κ) {fo cs : List (Held Item)} {m : Int} {xs s : List Item} (h : DT c fo cs (heldFrom m xs)) (hs : Sorts κ xs s) : s.take fo.length = fo.map (·.1) := by
  obtain ⟨zs, h1, h2⟩ := heldSort hk cs
  have h3 : Sorts κ xs ((fo ++ zs).map (·.1)) := by
    refine sorted_sorts hk ?_ ((List.Perm.append_left fo h2).trans h.perm)
    rw [List.pairwise_append]
    exact ⟨h.up, h1, fun a ha b hb => h.le a ha b (h2.mem_iff.1 hb)⟩
  rw [hs.unique h3, List.map_append]
  have e : fo.length = (fo.map (·.1)).length := (List.length_map _).symm
  rw [e, List.take_left]
theorem DT.lens {fo cs all : List (Held Item)} (h : DT c fo cs all) : fo.length + cs.length = all.length := by
  have := h.perm.length_eq
  rwa [List.length_append] at this
theorem DT.all {fo cs : List (Held Item)} {m : Int} {a b zl : List Item} {n : Int} (h : DT c fo cs (heldFrom m a)) (hz : Sorts κ ((cs ++ heldFrom n b).map (·.1)) zl) : (fo.map (·.1) ++ zl).Perm (a ++ b) := by
  have h1 := h.perm.map (·.1)
  rw [List.map_append, heldFrom_map] at h1
  have h2 : zl.Perm (cs.map (·.1) ++ b) := by
    have := hz.perm
    rwa [List.map_append, heldFrom_map] at this
  refine (List.Perm.append_left _ h2).trans ?_
  rw [← List.append_assoc]
  exact h1.append_right b
theorem Sorts.rises (hk : Keyed c κ) {xs zl : List Item} (h : Sorts κ xs zl) : ∀ p y x, zl[p]? = some y → zl[p + 1]? = some x → ¬ c x y < 0 := fun p y x h1 h2 hc => by
  obtain ⟨g1, g2⟩ := List.getElem?_eq_some_iff.1 h1
  obtain ⟨g3, g4⟩ := List.getElem?_eq_some_iff.1 h2
  have h3 := List.pairwise_iff_getElem.1 h.up p (p + 1) g1 g3 (by omega)
  rw [g2, g4] at h3
  have h4 := (hk.lt x y).1 hc
  omega
end
section
variable {o : Int} {bb m : Nat} {A : Option Addr} {cs : List (Held Item)} {w w' : World}
theorem BL.add_one (h : BL o bb A m cs w) (x : Item) (hl : cs.length + 1 ≤ 1000000000) (hm : m + 1 ≤ 1000000000) :
    Calls Try.prog 40 #[.pointer (some ⟨bb, 0, none⟩), .slice (some ⟨w.heap.size, 0, none⟩) 1 1] (w.alloc (.cells #[.int .i64 x.1, .int .i64 x.2] 27)) fun e w' =>
      e = .returned (.tuple #[]) ∧ ∃ A', BL o bb A' (m + 1) (cs ++ [(x, (m : Int))]) w' ∧ (∀ a, A' = some a → AtB A a.block ∨ w.heap.size ≤ a.block) ∧ Keep (Mb bb A) w w' := by
  have k0 : Keep (fun _ => False) w (w.alloc (.cells #[.int .i64 x.1, .int .i64 x.2] 27)) := (Keep.refl _ w).alloc _
  have hlt := h.lt
  refine ((h.keep k0 (fun h => h) (fun ⟨_, _, h⟩ => h)).add (some ⟨w.heap.size, 0, none⟩) 1 1 [x] rfl (Sl.one EI w x _ 27 rfl) (fun _ a ha hk => ?_) hl hm).mono ?_
  · obtain rfl := Option.some.inj ha
    rcases hk with hk | ⟨a', ha', e⟩
    · exact absurd hlt (by rw [← hk]; exact Nat.lt_irrefl _)
    · have := (h.old a' ha').1
      rw [e] at this
      exact Nat.lt_irrefl _ this
  · rintro e w' ⟨he, A', g1, g2, g3⟩
    refine ⟨he, A', g1, fun a ha => (g2 a ha).imp id (fun h => ?_), (k0.mono (fun _ _ h => h.elim)).then_ g3⟩
    rw [World.size_alloc] at h
    omega
/-- what is done with the one bag: neither the other one nor what was ahead of both is written -/
def KC (b : Nat) : Nat → Prop := fun k => k = b ∨ b + 2 ≤ k
theorem Keep.kc {b : Nat} (k : Keep (Mb b A) w w') (hA : ∀ a, A = some a → b + 2 ≤ a.block) : Keep (KC b) w w' :=
  k.mono (fun i _ h => h.elim .inl (fun ⟨a, ha, e⟩ => .inr (by have := hA a ha; omega)))
/-- the bag in block b holds cs; its heap lies behind both bags -/
def BK (o : Int) (b m : Nat) (cs : List (Held Item)) (w5 w : World) : Prop := ∃ A, BL o b A m cs w ∧ (∀ a, A = some a → b + 2 ≤ a.block) ∧ Keep (KC b) w5 w
theorem BK.add_one {b : Nat} {w5 : World} (h : BK o b m cs w5 w) (x : Item) (hw : b + 2 ≤ w.heap.size) (hl : cs.length + 1 ≤ 1000000000) (hm : m + 1 ≤ 1000000000) :
    Calls Try.prog 40 #[.pointer (some ⟨b, 0, none⟩), .slice (some ⟨w.heap.size, 0, none⟩) 1 1] (w.alloc (.cells #[.int .i64 x.1, .int .i64 x.2] 27)) fun e w' => e = .returned (.tuple #[]) ∧ BK o b (m + 1) (cs ++ [(x, (m : Int))]) w5 w' := by
  obtain ⟨A, h1, h2, h3⟩ := h
  refine (h1.add_one x hl hm).mono ?_
  rintro e w' ⟨he, A', g1, g2, g3⟩
  refine ⟨he, A', g1, fun a ha => ?_, h3.then_ (g3.kc h2)⟩
  rcases g2 a ha with ⟨a', ha', e⟩ | g
  · have := h2 a' ha'
    omega
  · omega
theorem BK.add {b : Nat} {w5 : World} (h : BK o b m cs w5 w) (X : Option Addr) (cx L : Nat) (xs : List Item) (hL : xs.length = L) (hx : Sl EI w X cx xs) (hX : xs ≠ [] → ∀ a, X = some a → a.block < b) (hw : b + 2 ≤ w.heap.size) (hl : cs.length + L ≤ 1000000000) (hm : m + L ≤ 1000000000) :
    Calls Try.prog 40 #[.pointer (some ⟨b, 0, none⟩), .slice X L cx] w fun e w' => e = .returned (.tuple #[]) ∧ BK o b (m + L) (cs ++ heldFrom (m : Int) xs) w5 w' := by
  obtain ⟨A, h1, h2, h3⟩ := h
  refine (h1.add X cx L xs hL hx (fun hne a ha hk => ?_) hl hm).mono ?_
  · have h4 := hX hne a ha
    rcases hk with hk | ⟨a', ha', e⟩
    · omega
    · have := h2 a' ha'
      omega
  · rintro e w' ⟨he, A', g1, g2, g3⟩
    refine ⟨he, A', g1, fun a ha => ?_, h3.then_ (g3.kc h2)⟩
    rcases g2 a ha with ⟨a', ha', e⟩ | g
    · have := h2 a' ha'
      omega
    · omega
theorem BK.len {b : Nat} {w5 : World} (h : BK o b m cs w5 w) : Calls Try.prog 38 #[.pointer (some ⟨b, 0, none⟩)] w fun e w' => e = .returned (.int .i64 (cs.length : Int)) ∧ w' = w := by
  obtain ⟨A, h1, _⟩ := h
  exact h1.len
theorem BK.kept {b : Nat} {w5 : World} (h : BK o b m cs w5 w) : Keep (KC b) w5 w := by
  obtain ⟨A, _, _, h3⟩ := h
  exact h3
theorem BK.keep {b : Nat} {w5 : World} (h : BK o b m cs w5 w) (k : Keep (fun _ => False) w w') : BK o b m cs w5 w' := by
  obtain ⟨A, h1, h2, h3⟩ := h
  exact ⟨A, h1.keep k (fun h => h) (fun ⟨_, _, h⟩ => h), h2, h3.then_ (k.mono (fun _ _ h => h.elim))⟩
/-- a bag, what was taken out of it, and the list that it was appended to -/
structure DL (o : Int) (b m : Nat) (all fo cs : List (Held Item)) (Ao : Option Addr) (co : Nat) (w5 w : World) : Prop where
  dt : DT (byC o) fo cs all
  bag : ∃ A p, BL o b A m cs w ∧ (∀ a, A = some a → b + 2 ≤ a.block ∧ a.block < p) ∧ (∀ a, Ao = some a → p ≤ a.block) ∧ b + 2 ≤ p ∧ p ≤ w.heap.size
  keep : Keep (KC b) w5 w
  ow : Ow EI w Ao co (fo.map (·.1))
theorem DL.start {b : Nat} {w5 : World} (h : BK o b m cs w5 w) (hw : b + 2 ≤ w.heap.size) : DL o b m cs [] cs none 0 w5 w := by
  obtain ⟨A, h1, h2, h3⟩ := h
  exact ⟨DT.start cs, ⟨A, w.heap.size, h1, fun a ha => ⟨h2 a ha, (h1.old a ha).1⟩, fun a h => by simp at h, hw, Nat.le_refl _⟩, h3, Ow.nil_ _ _ _⟩
section
variable {b : Nat} {w5 : World} {all fo : List (Held Item)} {Ao : Option Addr} {co : Nat}
theorem DL.len (h : DL o b m all fo cs Ao co w5 w) : Calls Try.prog 38 #[.pointer (some ⟨b, 0, none⟩)] w fun e w' => e = .returned (.int .i64 (cs.length : Int)) ∧ w' = w := by
  obtain ⟨A, p, h1, _⟩ := h.bag
  exact h1.len
theorem DL.back (h : DL o b m all fo cs Ao co w5 w) : BK o b m cs w5 w := by
  obtain ⟨A, p, h1, h2, _⟩ := h.bag
  exact ⟨A, h1, fun a ha => (h2 a ha).1, h.keep⟩
/-- one more is taken -/
theorem DL.take (h : DL o b m all fo cs Ao co w5 w) (hne : cs ≠ []) (hl : cs.length ≤ 1000000000) :
    Calls Try.prog 41 #[.pointer (some ⟨b, 0, none⟩)] w fun e w' => ∃ z : Held Item, e = .returned (.tuple #[EI.val z.1, .bool true]) ∧ (cs.erase z).length + 1 = cs.length ∧
      ∀ w2, Keep (fun _ => False) w' w2 → Ow EI w2 Ao co (fo.map (·.1)) ∧ ∀ A' c' w'', Appended EI w2 Ao ((fo ++ [z]).map (·.1)) A' c' w'' → DL o b m all (fo ++ [z]) (cs.erase z) A' c' w5 w'' := by
  obtain ⟨A, p, h1, h2, h3, h4, h5⟩ := h.bag
  refine (h1.take_some hne hl).mono ?_
  rintro e w' ⟨z, hz, hle, he, hb, hk⟩
  have hnb : ¬ InB (Mb b A) Ao := by
    rintro ⟨a, ha, hm | ⟨a', ha', e⟩⟩
    · have := h3 a ha
      omega
    · have := h3 a ha
      have := (h2 a' ha').2
      omega
  refine ⟨z, he, by rw [List.length_erase_of_mem hz]; have := List.length_pos_of_mem hz; omega, fun w2 k2 => ⟨(h.ow.keep hk hnb).keep k2 (fun ⟨_, _, h⟩ => h), fun A' c' w'' hap => ?_⟩⟩
  have hs2 : p ≤ w2.heap.size := Nat.le_trans h5 (Nat.le_trans hk.size k2.size)
  refine ⟨h.dt.next hz hle, ⟨A, p, (hb.keep k2 (fun h => h) (fun ⟨_, _, h⟩ => h)).keep hap.keep ?_ ?_, h2, fun a ha => ?_, h4, Nat.le_trans hs2 hap.keep.size⟩, ?_, hap.ow⟩
  · rintro ⟨a, ha, e⟩
    have := h3 a ha
    omega
  · rintro ⟨a, ha, a', ha', e⟩
    have := h3 a' ha'
    have := (h2 a ha).2
    omega
  · rcases hap.lies a ha with ⟨a0, h0, e⟩ | ⟨e, _⟩
    · have := h3 a0 h0
      omega
    · omega
  · refine ((h.keep.then_ (hk.kc (fun a ha => (h2 a ha).1))).then_ (k2.mono (fun _ _ h => h.elim))).then_ (hap.keep.mono (fun i _ hi => ?_))
    obtain ⟨a, ha, e⟩ := hi
    have := h3 a ha
    exact .inr (by omega)
end
end
theorem DL.keep_ {o : Int} {b m : Nat} {all fo cs : List (Held Item)} {Ao : Option Addr} {co : Nat} {w5 w w' : World} (h : DL o b m all fo cs Ao co w5 w) (k : Keep (fun _ => False) w w') : DL o b m all fo cs Ao co w5 w' := by
  obtain ⟨A, p, h1, h2, h3, h4, h5⟩ := h.bag
  exact ⟨h.dt, ⟨A, p, h1.keep k (fun h => h) (fun ⟨_, _, h⟩ => h), h2, h3, h4, Nat.le_trans h5 k.size⟩, h.keep.then_ (k.mono (fun _ _ h => h.elim)), h.ow.keep k (fun ⟨_, _, h⟩ => h)⟩
theorem DL.add {o : Int} {b m : Nat} {all fo cs : List (Held Item)} {Ao : Option Addr} {co : Nat} {w5 w : World} (h : DL o b m all fo cs Ao co w5 w) (X : Option Addr) (cx L : Nat) (xs : List Item) (hL : xs.length = L) (hx : Sl EI w X cx xs) (hX : xs ≠ [] → ∀ a, X = some a → a.block < b) (hl : cs.length + L ≤ 1000000000) (hm : m + L ≤ 1000000000) :
    Calls Try.prog 40 #[.pointer (some ⟨b, 0, none⟩), .slice X L cx] w fun e w' => e = .returned (.tuple #[]) ∧ BK o b (m + L) (cs ++ heldFrom (m : Int) xs) w5 w' ∧ Ow EI w' Ao co (fo.map (·.1)) := by
  obtain ⟨A, p, h1, h2, h3, h4, h5⟩ := h.bag
  refine (h1.add X cx L xs hL hx (fun hne a ha hk => ?_) hl hm).mono ?_
  · have h6 := hX hne a ha
    rcases hk with hk | ⟨a', ha', e⟩
    · omega
    · have := (h2 a' ha').1
      omega
  · rintro e w' ⟨he, A', g1, g2, g3⟩
    refine ⟨he, ⟨A', g1, fun a ha => ?_, h.keep.then_ (g3.kc (fun a ha => (h2 a ha).1))⟩, h.ow.keep g3 ?_⟩
    · rcases g2 a ha with ⟨a', ha', e⟩ | g
      · have := (h2 a' ha').1
        omega
      · omega
    · rintro ⟨a, ha, hm | ⟨a', ha', e⟩⟩
      · have := h3 a ha
        omega
      · have := h3 a ha
        have := (h2 a' ha').2
        omega
theorem Appended.kept_all {α : Type} {E : El α} {w w0 w' : World} {A A' : Option Addr} {c' : Nat} {zs : List α} (h : Appended E w A zs A' c' w') (k : Keep nob w0 w) (hA : ∀ a, A = some a → w0.heap.size ≤ a.block) : Keep nob w0 w' ∧ ∀ a, A' = some a → w0.heap.size ≤ a.block :=
  ⟨k.trans h.keep (fun b h1 ⟨a, ha, e⟩ => by have := hA a ha; omega), fun a ha => by
    rcases h.lies a ha with ⟨a0, h0, e⟩ | ⟨e, _⟩
    · rw [← e]; exact hA a0 h0
    · rw [e]; exact k.size⟩

/-! ### a round that appends what is told to a list in a box -/
theorem wpListIn_append_ow {P : Program} {α : Type} (E : El α) {l n : Nat} {w : World} {op : Oper} {ops : Array Oper} {rest : List Oper} {a : Act} {Q : Exit → Act → World → Prop} (hgd : op.guard = none) (s x : Operand) (t : TypeId)
    (ho : op.op = .call { callee := .builtin .append, args := #[s, x], argTypes := #[t, t] }) (e : TypeId) (z : Value) (bytes : Nat) (ht : P.underlying t = some (.slice e)) (hinfo : (P.info? e).map (fun i => (i.zero, i.size, i.bytes)) = some (some z, E.sz, bytes)) (hz : z.cells.size = E.sz)
    (A : Option Addr) (k c : Nat) (hs : a.eval s = .slice A k c) (xs : List α) (hn : xs.length = k) (hxs : Ow E w A c xs) (A2 : Option Addr) (m c2 : Nat) (hx : a.eval x = .slice A2 m c2) (ys : List α) (hm : ys.length = m) (hys : Sl E w A2 c2 ys)
    (hb : (k + m) * bytes ≤ 140737488355328) (h63 : k + m ≤ 9223372036854775807)
    (h : ∀ A' c' w', Appended E w A (xs ++ ys) A' c' w' → wpListIn (Fence.wide.inRound l) n P ops Q rest (a.put op.dst (.slice A' (k + m) c')) w') : wpListIn (Fence.wide.inRound l) n P ops Q (op :: rest) a w :=
  wpListIn_plain hgd fun K hK => wpIn_of_wp (by rw [ho]) (wp_append_ow (K := K) E s x t ho e z bytes ht hinfo hz A k c hs xs hn hxs A2 m c2 hx ys hm hys hb h63 (fun A' c' w' h' => hK _ _ (h A' c' w' h')))

/-- between two rounds: the box in block bq holds a list that reads as what has come -/
structure Came (bq : Nat) (w1 : World) (pre : List Item) (W : World) : Prop where
  got : ∃ Ar cr, W.cell? ⟨bq, 0, none⟩ = some (.slice Ar pre.length cr) ∧ Ow EI W Ar cr pre ∧ (∀ a, Ar = some a → w1.heap.size ≤ a.block ∧ 0 < cr)
  th : W.there bq 0 1
  keep : Keep (fun k => k = bq) w1 W
theorem Came.own {bq : Nat} {w1 : World} : OwnFrom w1.heap.size (Came bq w1) := by
  intro pre W W' row h hg hr
  have hck := CK.of_grown hg (fun r e => (hr r e).2)
  obtain ⟨Ar, cr, h1, h2, h3⟩ := h.got
  exact ⟨⟨Ar, cr, (hck _ _ h1).1, hck.ow h2, h3⟩, hck.there h.th, h.keep.grown hg (fun r e => (hr r e).1)⟩
/-- what a round may write -/
theorem Came.next {bq : Nat} {w1 : World} {pre : List Item} {W W1 W2 : World} {Ar A' : Option Addr} {cr c' : Nat} {x : Item} (hq : bq < w1.heap.size) (h : Came bq w1 pre W) (hc : W.cell? ⟨bq, 0, none⟩ = some (.slice Ar pre.length cr)) (hA : ∀ a, Ar = some a → w1.heap.size ≤ a.block ∧ 0 < cr) (ho : Ow EI W Ar cr pre)
    (k1 : Keep (fun _ => False) W W1) (hap : Appended EI W1 Ar (pre ++ [x]) A' c' W2) (hl : A' = none ∨ 0 < c') :
    KeepsFrom w1.heap.size W (W2.setCell ⟨bq, 0, none⟩ (.slice A' (pre.length + 1) c')) ∧ RW (fun k => k = bq) bq 0 W (W2.setCell ⟨bq, 0, none⟩ (.slice A' (pre.length + 1) c')) ∧ Came bq w1 (pre ++ [x]) (W2.setCell ⟨bq, 0, none⟩ (.slice A' (pre.length + 1) c')) := by
  have hWs : w1.heap.size ≤ W.heap.size := h.keep.size
  have k2 : Keep (fun k => k = bq) W2 (W2.setCell ⟨bq, 0, none⟩ (.slice A' (pre.length + 1) c')) := (Keep.refl (fun k => k = bq) W2).setCell (fun _ => rfl) _
  have hne : ¬ AtB Ar bq := fun ⟨a, ha, e⟩ => by have := (hA a ha).1; omega
  have hc2 : W2.cell? ⟨bq, 0, none⟩ = some (.slice Ar pre.length cr) := hap.keep.cell (k1.cell hc (fun h => h)) hne
  have hc3 : (W2.setCell ⟨bq, 0, none⟩ (.slice A' (pre.length + 1) c')).cell? ⟨bq, 0, none⟩ = some (.slice A' (pre.length + 1) c') := World.cell?_setCell_same _ _ _ hc2
  have kk : Keep (fun k => k = bq ∨ AtB Ar k) W (W2.setCell ⟨bq, 0, none⟩ (.slice A' (pre.length + 1) c')) := ((k1.mono (fun _ _ h => h.elim)).then_ (hap.keep.mono (fun _ _ h => .inr h))).then_ (k2.mono (fun _ _ h => .inl h))
  have hA' : ∀ a, A' = some a → (∃ a0, Ar = some a0 ∧ a0.block = a.block) ∨ W.heap.size ≤ a.block := fun a ha => by
    rcases hap.lies a ha with h | ⟨h, _⟩
    · exact .inl h
    · have := k1.size
      exact .inr (by omega)
  have hA1 : ∀ a, A' = some a → w1.heap.size ≤ a.block := fun a ha => by
    rcases hA' a ha with ⟨a0, h0, e⟩ | h
    · have := (hA a0 h0).1
      omega
    · omega
  refine ⟨⟨kk.size, fun k ob hB hk ho' => ?_⟩, RW.of_keep (kk.mono (fun k _ hk => ?_)) (fun k hk hw => ?_), ⟨⟨A', c', ?_, ?_, fun a ha => ⟨hA1 a ha, ?_⟩⟩, ?_, ?_⟩⟩
  · refine (kk.block k (Array.getElem?_eq_some_iff.1 hk).1 (fun hS => ?_)).trans hk
    rcases hS with hS | ⟨a, ha, e⟩
    · omega
    · obtain ⟨b', o', e', ht⟩ := ho.room (hA a ha).2
      rw [ha] at e'
      obtain rfl := Option.some.inj e'
      obtain ⟨u, hu⟩ := Option.isSome_iff_exists.1 (ht 0 (Nat.mul_pos (hA _ ha).2 EI.pos)).1
      obtain ⟨ob', h1, h2⟩ := cells_of_cell hu
      rw [show k = b' from e.symm] at hk
      rw [show W.heap[b']? = some ob' from h1] at hk
      obtain rfl := Option.some.inj hk
      rw [h2] at ho'
      cases ho'
  · rcases hk with hk | hk
    · exact .inl hk
    · exact .inr ⟨Ar, _, cr, hc, hk⟩
  · rcases hw with hw | ⟨A2, n2, c2, g1, a, ha, e⟩
    · exact .inl hw
    · rw [hc3] at g1
      simp only [Option.some.injEq, Value.slice.injEq] at g1
      obtain ⟨rfl, _, _⟩ := g1
      rcases hA' a ha with ⟨a0, h0, e0⟩ | h
      · exact .inr ⟨Ar, _, cr, hc, a0, h0, e0.trans e⟩
      · omega
  · rw [hc3, List.length_append]
    rfl
  · refine hap.ow.keep k2 (fun ⟨a, ha, e⟩ => ?_)
    have := hA1 a ha
    have e' : a.block = bq := e
    omega
  · rcases hl with hl | hl
    · rw [hl] at ha
      cases ha
    · exact hl
  · exact there_setCell (hap.keep.there (k1.there h.th (fun h => h)) hne) _ _
  · exact ⟨kk.os.trans h.keep.os, kk.tape.trans h.keep.tape, kk.output.trans h.keep.output, Nat.le_trans hWs kk.size, fun k hk hS => (kk.block k (by omega) (fun h' => h'.elim hS (fun ⟨a, ha, e⟩ => by have := (hA a ha).1; omega))).trans (h.keep.block k hk hS)⟩

/-! ### an append of any list that says where it wrote -/
structure Appended3 {α : Type} (E : El α) (w : World) (A : Option Addr) (c : Nat) (zs : List α) (A' : Option Addr) (c' : Nat) (w' : World) : Prop where
  ow : Ow E w' A' c' zs
  where_ : (A' = A ∧ c' = c ∧ Keep (fun k => 0 < c ∧ AtB A k) w w') ∨ ((∀ a, A' = some a → a.block = w.heap.size) ∧ w.heap.size < w'.heap.size ∧ Keep (fun _ => False) w w')
section
variable {P : Program}
theorem run_append_three {α : Type} (E : El α) (w : World) (t ty e : TypeId) (z : Value) (bytes : Nat) (ht : P.underlying t = some (.slice e)) (hinfo : (P.info? e).map (fun i => (i.zero, i.size, i.bytes)) = some (some z, E.sz, bytes)) (hz : z.cells.size = E.sz)
    {A A2 : Option Addr} {c c2 : Nat} {xs ys : List α} (hx : Ow E w A c xs) (hy : Sl E w A2 c2 ys) (hb : (xs.length + ys.length) * bytes ≤ 140737488355328) (h63 : xs.length + ys.length ≤ 9223372036854775807) :
    ∃ A' c' w', (Builtin.append_ #[t, t] ty #[.slice A xs.length c, .slice A2 ys.length c2]).run P w = .ok (.slice A' (xs.length + ys.length) c') w' ∧ Appended3 E w A c (xs ++ ys) A' c' w' := by
  by_cases hpos : 0 < ys.length
  · obtain ⟨A', c', w', hr, hap⟩ := run_append_one (P := P) E w t ty e z bytes ht hinfo hz hx hy hpos hb h63
    refine ⟨A', c', w', hr, hap.ow, ?_⟩
    rcases hap.where_ with ⟨h1, h2, h3, h4⟩ | h
    · exact .inl ⟨h1, h2, h4.mono (fun _ _ h => ⟨h3, h⟩)⟩
    · exact .inr h
  · obtain rfl : ys = [] := List.eq_nil_of_length_eq_zero (by omega)
    obtain ⟨i, hi, hz0, hsz, hby⟩ := info_parts hinfo
    have hle := hx.sl.le
    refine ⟨A, c, w, ?_, by rw [List.append_nil]; exact hx, .inl ⟨rfl, rfl, Keep.refl _ _⟩⟩
    have hf := firstCells_Sl (P := P) E hy
    cases A <;> simp [Builtin.append_, run_underlying ht, sizeOf, typeInfo, hi, Builtin.lenOf, hsz, El.flat_nil, hle] at hf ⊢ <;> simp [hf, storeCells]
theorem wp_append_three {α : Type} (E : El α) {w : World} {op : Oper} {a : Act} {K : Act → World → Prop} {Q : Exit → Act → World → Prop} (s x : Operand) (t : TypeId)
    (ho : op.op = .call { callee := .builtin .append, args := #[s, x], argTypes := #[t, t] }) (e : TypeId) (z : Value) (bytes : Nat) (ht : P.underlying t = some (.slice e)) (hinfo : (P.info? e).map (fun i => (i.zero, i.size, i.bytes)) = some (some z, E.sz, bytes)) (hz : z.cells.size = E.sz)
    (A : Option Addr) (n c : Nat) (hs : a.eval s = .slice A n c) (xs : List α) (hn : xs.length = n) (hxs : Ow E w A c xs) (A2 : Option Addr) (m c2 : Nat) (hx : a.eval x = .slice A2 m c2) (ys : List α) (hm : ys.length = m) (hys : Sl E w A2 c2 ys)
    (hb : (n + m) * bytes ≤ 140737488355328) (h63 : n + m ≤ 9223372036854775807)
    (h : ∀ A' c' w', Appended3 E w A c (xs ++ ys) A' c' w' → K (a.put op.dst (.slice A' (n + m) c')) w') : op.wp P a w K Q := by
  subst hn; subst hm
  obtain ⟨A', c', w', hr, hap⟩ := run_append_three (P := P) E w t op.type e z bytes ht hinfo hz hxs hys hb h63
  unfold Oper.wp execOp
  simp only [ho, resolve, invoke, builtin, Sem.run_bind, Sem.run_pure, Result.andThen_ok, List.map_toArray, List.map_cons, List.map_nil, hs, hx, hr]
  exact h _ _ _ hap
end
/-- onto an empty list of no room -/
theorem Appended3.first {α : Type} {E : El α} {w w' : World} {A A' : Option Addr} {c' : Nat} {zs : List α} (h : Appended3 E w A 0 zs A' c' w') : Keep (fun _ => False) w w' ∧ (0 < c' → ∀ a, A' = some a → w.heap.size ≤ a.block) := by
  rcases h.where_ with ⟨_, h2, h3⟩ | ⟨h1, _, h3⟩
  · exact ⟨h3.mono (fun _ _ h => absurd h.1 (Nat.lt_irrefl 0)), fun h => by omega⟩
  · exact ⟨h3, fun _ a ha => by rw [h1 a ha]; exact Nat.le_refl _⟩
/-- onto a list that is new since W -/
theorem Appended3.then_ {α : Type} {E : El α} {W w w' : World} {A A' : Option Addr} {c c' : Nat} {zs : List α} (h : Appended3 E w A c zs A' c' w') (k : Keep (fun _ => False) W w) (hA : 0 < c → ∀ a, A = some a → W.heap.size ≤ a.block) :
    Keep (fun _ => False) W w' ∧ (0 < c' → ∀ a, A' = some a → W.heap.size ≤ a.block) := by
  rcases h.where_ with ⟨h1, h2, h3⟩ | ⟨h1, _, h3⟩
  · exact ⟨k.trans h3 (fun i hi ⟨hc, a, ha, e⟩ => by have := hA hc a ha; omega), fun hc a ha => hA (h2 ▸ hc) a (h1 ▸ ha)⟩
  · exact ⟨k.then_ h3, fun _ a ha => by rw [h1 a ha]; exact k.size⟩
theorem Appended3.at_ {α : Type} {E : El α} {w w' : World} {A A' : Option Addr} {c c' : Nat} {zs : List α} (_ : Appended3 E w A c zs A' c' w') {p : World → Prop} (k : p w) : p w := k
/-- another list that is older -/
theorem Appended3.other {α β : Type} {E : El α} {E' : El β} {W w w' : World} {A A' B : Option Addr} {c c' d : Nat} {zs : List α} {ys : List β} (h : Appended3 E w A c zs A' c' w') (hA : 0 < c → ∀ a, A = some a → W.heap.size ≤ a.block) (hB : Ow E' W B d ys) (ho : Ow E' w B d ys) : Ow E' w' B d ys := by
  rcases h.where_ with ⟨h1, h2, h3⟩ | ⟨h1, _, h3⟩
  · refine ho.keep2 h3 (fun hd ⟨a, ha, hc, a', ha', e⟩ => ?_)
    obtain ⟨b, o, eb, hlt⟩ := hB.lt hd
    rw [eb] at ha
    obtain rfl := Option.some.inj ha
    have h4 := hA hc a' ha'
    have h5 : a'.block = b := e
    omega
  · exact ho.keep h3 (fun ⟨_, _, h⟩ => h)
end Go.Proofs.Ytnofckgnnpmiiaa
