/- What a row of this seat asks: what a law that leaves all memory leaves; what an argument's bulk bounds. -/
import Derived.Test.YticnefkdkkjgcaaGreatDoorTie
import Derived.WalkKit
import Derived.ProofKit
import Derived.OpenShut
import Derived.Deep.DeepHandedRow
import Derived.Deep.DeepWitnessRowRef
import Derived.Carry
import Derived.StillTail
import Derived.Test.YticnefkdkkjgcaaGreatDoorPa5
namespace Go.Proofs.YticnefkdkkjgcaaGreatDoor
open Go.ChangeShapes Go.WideShapes Go.ChangeAt Go.RowKit

section
variable {H : Type} {enc : TypeId × Value → H}
theorem trodAll_below {P : Program} (hl : laidOutB P = true) {W W' : World} (hb : Below W.heap.size W W') :
    ∀ {ts : List TypeId} {vs : List Value} {ds : List (DataW H)} {ps : List MemPlace}, (∀ t ∈ ts, P.readableRec t = true ∧ t < P.types.size) → (∀ x ∈ ps, x.block < W.heap.size) →
      DataW.TrodAll enc P W 0 (fun _ => true) true ts vs ds ps → DataW.TrodAll enc P W' 0 (fun b => decide (b < W.heap.size)) true ts vs ds ps
  | [], _, _, _, _, _, h => by
    obtain ⟨rfl, rfl, rfl⟩ := trodAll_nil h
    exact trodAll_mk0
  | t :: ts, _, _, _, ht, hlt, h => by
    obtain ⟨v, vs1, d, ds1, a, b, rfl, rfl, rfl, h1, h2⟩ := trodAll_cons h
    obtain ⟨r1, r2⟩ := ht t (List.mem_cons_self)
    exact trodAll_cons_mk (Below.trod hl r1 r2 h1 hb (fun x hx => hlt x (List.mem_append_left _ hx))) (trodAll_below hl hb (fun t h => ht t (List.mem_cons_of_mem _ h)) (fun x hx => hlt x (List.mem_append_right _ hx)) h2)

/-- A law that answers true and leaves all memory that there was. -/
theorem law_post {f : Func} {s : ChangeSpec} {W W' : World} {args : Array Value} {ds gs : List (DataW H)} {before : List MemPlace}
    (hW : DataW.Whole enc Tryz.prog f.params.toList s.vars false W args.toList ds gs before) (hvars : s.vars = [])
    (hres : (s.fn H ds).results = [.lit (.bool true)]) (hargs : (s.fn H ds).args = ds) (hv : (s.fn H ds).vars = []) (hr : f.resultTypes = #[4])
    (hts : ∀ t ∈ f.params.toList, Tryz.prog.readableRec t = true ∧ t < Tryz.prog.types.size) (hb : Below W.heap.size W W') : s.post enc Tryz.prog f false true false false W args (.bool true) W' := by
  have hW0 := hW
  obtain ⟨p, q, hA, hV, e, hfz, hnd⟩ := hW
  rw [hvars] at hV
  obtain ⟨rfl, rfl⟩ := trodVars_none hV
  rw [List.append_nil] at e
  subst e
  refine ⟨ds, [], before, [], before, [], hW0, ?_, ?_, ?_, hb.frame _, fun h => by cases h⟩
  · rw [List.append_nil, hres, hr]
    exact trodAll_cons_mk (shut_bool Tryz.underlying4 _) trodAll_mk0
  · rw [List.append_nil, hargs]
    exact trodAll_below (by kernel_rfl) hb hts (fun x hx => by simpa using hW0.lt x hx) hA
  · rw [List.append_nil, hv, hvars]
    exact rfl
end
theorem own : ownKnob Tryz.prog.godebug = none := by kernel_rfl
end Go.Proofs.YticnefkdkkjgcaaGreatDoor

/- cruciblelaw01.SameInt64s of one list in two places. -/
namespace Go.Proofs.YticnefkdkkjgcaaGreatDoor
open Go.RowKit

/-- an int64 -/
def E64 : El Int where
  sz := 1
  pos := by decide
  cells := fun z => [.int .i64 z]
  len := fun _ => rfl
  one := fun x v h => by simp at h; subst h; rfl
  val := fun z => .int .i64 z
theorem sl64_cell {w : World} {b o c i : Nat} {x : Int} {xs : List Int} (h : Sl E64 w (some ⟨b, o, none⟩) c xs) (hi : i < xs.length) (hx : xs.getD i 0 = x) : w.cell? ⟨b, o + i, none⟩ = some (.int .i64 x) := by
  obtain ⟨b1, o1, e1, hr⟩ := h.elem (i := i) hi
  simp only [Option.some.injEq, Addr.mk.injEq, and_true] at e1
  obtain ⟨rfl, rfl⟩ := e1
  have h1 := hr 0 _ rfl
  simp only [E64, Nat.add_zero, Nat.mul_one] at h1
  rw [h1, show xs[i] = x by rw [← hx, List.getD_eq_getElem?_getD, List.getElem?_eq_getElem hi]; rfl]
set_option maxRecDepth 100000 in
theorem same64_ok (A A' : Option Addr) (c c' n : Nat) (l : List Int) (w : World) (hn : l.length = n) (h : Sl E64 w A c l) (h' : Sl E64 w A' c' l) :
    Calls Tryz.prog 21 #[.slice A n c, .slice A' n c'] w fun e w' => e = .returned (.bool true) ∧ Keep nob w w' := by
  have hle := h.le
  have hcc := h.cap
  rw [hn] at hle
  have H := Lib.hid h
  have H' := Lib.hid h'
  have HN := Lib.hid hn
  clear h h' hn
  go_enter Tryz.func21, Tryz.ntmps21
  go_wp2
  go_loopw [5] (fun u5 wr => ∃ i : Nat, i ≤ n ∧ u5 = .int .i64 (i : Int) ∧ Hid (Keep nob w wr)) (fun u5 _ => n - (intOf u5).toNat)
  case atStart => exact ⟨0, Nat.zero_le _, rfl, Lib.hid (Keep.refl _ _)⟩
  case round =>
    obtain ⟨i, hi, rfl, HK⟩ := hrel
    rcases Nat.lt_or_ge i n with hlt | hge
    · have hd : decide ((i : Int) < (n : Int)) = true := by rw [decide_eq_true_iff]; omega
      have hi0 : (0 : Int) ≤ (i : Int) := by omega
      have hi1 : (i : Int) < (n : Int) := by omega
      have j5 : IntKind.i64.wrap ((i : Int) + 1) = (i : Int) + 1 := by rw [IntWalk.i64_left, IntWalk.wrap64_in _ ⟨by omega, by omega⟩]
      obtain ⟨x, HX⟩ : ∃ x, Hid (l.getD i 0 = x) := ⟨_, Lib.hid rfl⟩
      have hln : l ≠ [] := fun e => by have := HN.out; rw [e] at this; simp at this; omega
      obtain ⟨b, o, rfl, -⟩ := H.out.at_ hln
      obtain ⟨b', o', rfl, -⟩ := H'.out.at_ hln
      have HCE : Hid (∀ w', Kept wr w' → w'.cell? ⟨b, o + i, none⟩ = some (.int .i64 x) ∧ w'.cell? ⟨b', o' + i, none⟩ = some (.int .i64 x)) := Lib.hid (fun w' hk =>
        ⟨sl64_cell (H.out.keep (HK.out.then_ hk) (fun ⟨_, _, h⟩ => h)) (by rw [HN.out]; exact hlt) HX.out, sl64_cell (H'.out.keep (HK.out.then_ hk) (fun ⟨_, _, h⟩ => h)) (by rw [HN.out]; exact hlt) HX.out⟩)
      clear hln
      go_upto_region 6 with (fail)
      refine wp_region_kept (by kernel_rfl) (by kernel_rfl) (QV.out ?_)
      repeat (first
        | (refine kq_skip (by rfl) (fun K hK => ?_); go_simp; refine hK _ ?_; clear hK K)
        | (refine kq_want (by rfl) (fun K hK => ?_); first
            | (refine BigFrame.quiet_move _ rfl ?_; go_simp; refine hK _ ?_; clear hK K)
            | (refine kq_still ?_ (fun w' hw' => ?_) ?_; rotate_left; (obtain ⟨c1, c2⟩ := HCE.out w' hw'; go_simp; first | done | exact rfl); go_simp; refine hK _ ?_; clear hK K)
            | (go_simp; apply Exists.intro; refine ⟨fun w' hw' => ?_, hK _ ?_⟩; (first | (fail)); rintro e w'' ⟨rfl, hk''⟩; exact ⟨rfl, hw'.then_ hk''⟩; clear hK K)))
      refine ⟨wpQuiet_nil ?_⟩
      intro w9 hk9
      have HK9 := Lib.hid (HK.out.then_ hk9)
      clear hk9
      go_wp2
      exact ⟨⟨i + 1, by omega, rfl, HK9⟩, by simp [intOf]; omega⟩
    · obtain rfl : i = n := by omega
      have hd : decide ((i : Int) < (i : Int)) = false := by rw [decide_eq_false_iff_not]; omega
      go_wp2
      go_ret
      exact ⟨rfl, HK.out⟩
end Go.Proofs.YticnefkdkkjgcaaGreatDoor

/- An element of a typed array: a value, a float, whether it is wrong. -/
namespace Go.Proofs.YticnefkdkkjgcaaGreatDoor
open Go.RowKit

/-- an element's ten cells: the value's eight, the float's bits, a mark -/
structure Elm where
  r : Raw
  x : Nat
  wrong : Bool
def EE : El Elm where
  sz := 10
  pos := by decide
  cells := fun e => ER.cells e.r ++ [.float .f64 e.x, .bool e.wrong]
  len := fun _ => rfl
  one := fun e v h => by
    rcases List.mem_append.1 h with h | h
    · exact ER.one e.r v h
    · simp at h
      rcases h with rfl | rfl <;> rfl
  val := fun e => .agg #[.int .i8 (e.r.kind : Int), .int .u64 (e.r.n : Int), .bool e.r.neg, .slice e.r.mA e.r.mL e.r.mC, .int .u64 (e.r.bits : Int), .int .i8 e.r.ext, .string e.r.text, .slice e.r.kA e.r.kL e.r.kC, .float .f64 e.x, .bool e.wrong]
theorem elm_cells {w : World} {b o : Nat} {e : Elm} (h : w.rangeAt b o (EE.cells e)) : w.rangeAt b o (ER.cells e.r) ∧ w.cell? ⟨b, o + 8, none⟩ = some (.float .f64 e.x) ∧ w.cell? ⟨b, o + 9, none⟩ = some (.bool e.wrong) := by
  have h1 := (range_app (w := w) (b := b) (o := o) (xs := ER.cells e.r) (ys := [.float .f64 e.x, .bool e.wrong])).1 h
  exact ⟨h1.1, h 8 _ rfl, h 9 _ rfl⟩
end Go.Proofs.YticnefkdkkjgcaaGreatDoor

/- slices.Index in the table of the kinds. -/
namespace Go.Proofs.YticnefkdkkjgcaaGreatDoor
open Go.RowKit

set_option maxRecDepth 100000 in
theorem index_ok (e : Int) (i0 : Nat) (B : Nat) (sa : Nat → Addr) (w : World) (g : GL B sa w) (h0 : i0 < 23) (he : ((kdL.getD i0 0 : Nat) : Int) = e) (hf : ∀ j, j < i0 → ((kdL.getD j 0 : Nat) : Int) ≠ e) :
    Calls Tryz.prog 69 #[.slice (some ⟨11, 0, none⟩) 23 23, .int .i8 e] w fun E w' => E = .returned (.int .i64 (i0 : Int)) ∧ w' = w := by
  have HG := Lib.hid g
  have HE := Lib.hid he
  have HF := Lib.hid hf
  clear g he hf
  go_enter Tryz.func69, Tryz.ntmps69
  go_wp2
  go_loop [8] (fun u8 => ∃ i : Nat, i ≤ i0 ∧ u8 = .int .i64 (i : Int)) (fun u8 => i0 - (intOf u8).toNat)
  case atStart => exact ⟨0, Nat.zero_le _, rfl⟩
  case round =>
    obtain ⟨i, hi, rfl⟩ := hrel
    have hc := HG.out.kd i (by omega)
    obtain ⟨x, HX⟩ : ∃ x : Int, Hid (((kdL.getD i 0 : Nat) : Int) = x) := ⟨_, Lib.hid rfl⟩
    rw [HX.out] at hc
    have q0 : (0 : Int) ≤ (i : Int) := by omega
    have q1 : (i : Int) < 23 := by omega
    have d1 : decide ((i : Int) < 23) = true := by rw [decide_eq_true_iff]; omega
    have j1 : IntKind.i64.wrap ((i : Int) + 1) = (i : Int) + 1 := by rw [IntWalk.i64_left, IntWalk.wrap64_in _ ⟨by omega, by omega⟩]
    rcases Nat.lt_or_ge i i0 with hlt | hge
    · have hb : (e == x) = false := by
        rw [beq_eq_false_iff_ne, ← HX.out]
        exact fun h => HF.out i hlt h.symm
      go_wp2
      exact ⟨⟨i + 1, hlt, rfl⟩, by simp [intOf]; omega⟩
    · obtain rfl : i = i0 := by omega
      have hb : (e == x) = true := by rw [beq_iff_eq, ← HX.out, HE.out]
      go_wp2
      go_ret
      exact ⟨rfl, rfl⟩
end Go.Proofs.YticnefkdkkjgcaaGreatDoor

/- A document within other bytes: read there as alone, unless it is too deep there. Plain Lean. -/
namespace Go.Proofs.YticnefkdkkjgcaaGreatDoor
variable (D : Words)

mutual
/-- how deep a value is nested -/
def depV : V → Nat
  | .mk k _ _ _ _ _ _ kids => if k = 7 ∨ k = 8 ∨ k = 9 then depL kids + 1 else 0
def depL : List V → Nat
  | [] => 0
  | v :: l => max (depV v) (depL l)
end
theorem depL_nil : depL [] = 0 := by unfold depL; rfl
theorem depL_cons (v : V) (l : List V) : depL (v :: l) = max (depV v) (depL l) := by rw [depL]
theorem depL_app : ∀ (l l' : List V), depL (l ++ l') = max (depL l) (depL l')
  | [], l' => by rw [List.nil_append, depL_nil]; omega
  | v :: l, l' => by rw [List.cons_append, depL_cons, depL_cons, depL_app l l']; omega
theorem depL_ins (acc : List V) (m : Nat) (key x : V) : depL (insN acc m key x) = max (depL acc) (max (depV key) (depV x)) := by
  have h : depL acc = max (depL (acc.take (2 * m))) (depL (acc.drop (2 * m))) := by rw [← depL_app, List.take_append_drop]
  unfold insN
  rw [depL_app, depL_cons, depL_cons, h]
  omega
/-- words for values that hold none -/
structure Flat (D : Words) : Prop where
  whole : ∀ n, depV (D.whole n) = 0
  below : ∀ n, depV (D.below n) = 0
  single : ∀ n, depV (D.single n) = 0
  double : ∀ n, depV (D.double n) = 0
  twos : ∀ t, depV (D.twos t) = 0

/-- the bytes d lie in s', k further on -/
structure Shift (d s : ByteArray) (k : Nat) : Prop where
  sz : k + d.size ≤ s.size
  ex : ∀ p n, p + n ≤ d.size → s.extract (k + p) (k + p + n) = d.extract p (p + n)
theorem Shift.mk' (a d b : ByteArray) : Shift d (a ++ d ++ b) a.size := by
  refine ⟨by rw [ByteArray.size_append, ByteArray.size_append]; omega, fun p n h => ?_⟩
  apply ByteArray.ext
  simp only [ByteArray.data_extract, ByteArray.data_append]
  apply Array.ext'
  simp only [Array.toList_extract, Array.toList_append, List.extract_eq_take_drop]
  have ha : a.size = a.data.toList.length := rfl
  have hd : d.size = d.data.toList.length := rfl
  rw [List.append_assoc, ha, ← List.drop_drop, List.drop_left' rfl, List.drop_append_of_le_length (by omega), List.take_append_of_le_length (by rw [List.length_drop]; omega)]
  congr 1
  omega
theorem Shift.first (d b : ByteArray) : Shift d (d ++ b) 0 := by
  have := Shift.mk' ByteArray.empty d b
  rwa [ByteArray.empty_append] at this
theorem Shift.last (a d : ByteArray) : Shift d (a ++ d) a.size := by
  have := Shift.mk' a d ⟨#[]⟩
  have e : a ++ d ++ ⟨#[]⟩ = a ++ d := ByteArray.append_empty
  rwa [e] at this

section
variable {D} {d s : ByteArray} {k : Nat} (S : Shift d s k)
include S
theorem take_shift {p n q : Nat} {t : ByteArray} (hp : p ≤ d.size) (h : takeR d p n = .ok t q) : takeR s (k + p) n = .ok t (k + q) ∧ q ≤ d.size := by
  have hz := S.sz
  unfold takeR at h ⊢
  split at h
  · cases h
  · rename_i hn
    simp only [R.ok.injEq] at h
    obtain ⟨rfl, rfl⟩ := h
    rw [if_neg (by omega), S.ex p n (by omega), Nat.add_assoc]
    exact ⟨rfl, by omega⟩
theorem text_shift {p n q : Nat} {t : ByteArray} (hp : p ≤ d.size) (h : textR d p n = .ok t q) : textR s (k + p) n = .ok t (k + q) ∧ q ≤ d.size := by
  have hz := S.sz
  unfold textR at h
  split at h
  · cases h
  · rename_i hn
    have h2 := take_shift S hp h
    have hle : n ≤ d.size - p := by
      unfold takeR at h
      split at h
      · cases h
      · omega
    unfold textR
    have e1 : min n (d.size - p) = n := by omega
    have e2 : min n (s.size - (k + p)) = n := by omega
    rw [e1] at hn
    rw [e2, S.ex p n (by omega)]
    have hl : (bl (d.extract p (p + n))).length = n := by rw [bl_len, ByteArray.size_extract]; omega
    have h3 := scan_none (m := d.size - p) (m' := s.size - (k + p)) (l := bl (d.extract p (p + n))) (n := n) n (by omega) (by omega) (by rw [List.length_take]; omega) (fun q hq => by rw [hn] at hq; cases hq)
    rw [List.take_of_length_le (by omega)] at h3
    rw [h3]
    exact h2
end

/-- x is what is read k further on, with room for D' containers, where v ends at q -/
def Sh (k D' : Nat) (v : V) (q : Nat) (x : R V) : Prop := (depV v ≤ D' → x = .ok v (k + q)) ∧ (D' < depV v → ∃ r, x = .bad 5 r)
theorem Sh.flat {k D' q : Nat} {v : V} {x : R V} (h0 : depV v = 0) (h : x = .ok v (k + q)) : Sh k D' v q x := ⟨fun _ => h, fun h' => by omega⟩
section
variable {D} {z k D' : Nat} {it it' : Nat → R V} (hit : ∀ p v q, p ≤ z → it p = .ok v q → q ≤ z ∧ Sh k D' v q (it' (k + p)))
include hit
theorem rounds_shift : ∀ (n p : Nat) (acc l : List V) (q : Nat), p ≤ z → roundsN it n p acc = .ok l q → q ≤ z ∧ ∃ m, l = acc ++ m ∧ m.length = n ∧ (depL m ≤ D' → roundsN it' n (k + p) acc = .ok l (k + q)) ∧ (D' < depL m → ∃ r, roundsN it' n (k + p) acc = .bad 5 r)
  | 0, p, acc, l, q, hp, h => by
    simp only [roundsN, R.ok.injEq] at h
    obtain ⟨rfl, rfl⟩ := h
    exact ⟨hp, [], by simp, rfl, fun _ => rfl, fun h => by rw [depL_nil] at h; omega⟩
  | n + 1, p, acc, l, q, hp, h => by
    simp only [roundsN] at h ⊢
    cases hi : it p with
    | bad c r => rw [hi] at h; cases h
    | ok v p1 =>
      rw [hi] at h
      obtain ⟨hp1, h1, h2⟩ := hit p v p1 hp hi
      obtain ⟨hq, m, rfl, hm, h3, h4⟩ := rounds_shift n p1 (acc ++ [v]) l q hp1 h
      refine ⟨hq, v :: m, by simp, by simp [hm], fun hd => ?_, fun hd => ?_⟩
      · rw [depL_cons] at hd
        rw [h1 (by omega)]
        exact h3 (by omega)
      · rw [depL_cons] at hd
        rcases Nat.lt_or_ge D' (depV v) with hv | hv
        · obtain ⟨r, hr⟩ := h2 hv
          exact ⟨r, by rw [hr]; rfl⟩
        · rw [h1 hv]
          exact h4 (by omega)
theorem pairs_shift : ∀ (n p : Nat) (acc l : List V) (q : Nat), p ≤ z → pairsN D it n p acc = .ok l q → q ≤ z ∧ ∃ m, depL l = max (depL acc) (depL m) ∧ (depL m ≤ D' → pairsN D it' n (k + p) acc = .ok l (k + q)) ∧ (D' < depL m → ∃ r, pairsN D it' n (k + p) acc = .bad 5 r)
  | 0, p, acc, l, q, hp, h => by
    simp only [pairsN, R.ok.injEq] at h
    obtain ⟨rfl, rfl⟩ := h
    exact ⟨hp, [], by rw [depL_nil]; omega, fun _ => rfl, fun h => by rw [depL_nil] at h; omega⟩
  | n + 1, p, acc, l, q, hp, h => by
    simp only [pairsN] at h ⊢
    cases hi : it p with
    | bad c r => rw [hi] at h; cases h
    | ok v p1 =>
      rw [hi] at h
      obtain ⟨hp1, h1, h2⟩ := hit p v p1 hp hi
      simp only [R.bind] at h
      split at h
      · cases h
      rename_i hdup
      cases hj : it p1 with
      | bad c r => rw [hj] at h; cases h
      | ok x p2 =>
        rw [hj] at h
        obtain ⟨hp2, h5, h6⟩ := hit p1 x p2 hp1 hj
        obtain ⟨hq, m, hdl, h3, h4⟩ := pairs_shift n p2 _ l q hp2 h
        refine ⟨hq, v :: x :: m, by rw [hdl, depL_ins, depL_cons, depL_cons]; omega, fun hd => ?_, fun hd => ?_⟩
        · rw [depL_cons, depL_cons] at hd
          rw [h1 (by omega)]
          simp only [R.bind]
          rw [if_neg hdup, h5 (by omega)]
          exact h3 (by omega)
        · rw [depL_cons, depL_cons] at hd
          rcases Nat.lt_or_ge D' (depV v) with hv | hv
          · obtain ⟨r, hr⟩ := h2 hv
            exact ⟨r, by rw [hr]; rfl⟩
          · rw [h1 hv]
            simp only [R.bind]
            rw [if_neg hdup]
            rcases Nat.lt_or_ge D' (depV x) with hx | hx
            · obtain ⟨r, hr⟩ := h6 hx
              exact ⟨r, by rw [hr]⟩
            · rw [h5 hx]
              exact h4 (by omega)
end

/-- what is read within, so many containers more may be open -/
def inD (s : ByteArray) : Nat → Option (Nat → R V)
  | 0 => none
  | n + 1 => some (itemN D s n)
theorem itemN_inD (s : ByteArray) (n p : Nat) : itemN D s n p = itemF D s (inD D s n) p := by cases n <;> rfl
section
variable {D} {d s : ByteArray} {k : Nat} (S : Shift d s k) (F : Flat D)
include S F
theorem fam_shift {n0 D' : Nat} (hin : ∀ m E, n0 = m + 1 → D' = E + 1 → ∀ p v q, p ≤ d.size → itemN D d m p = .ok v q → q ≤ d.size ∧ Sh k E v q (itemN D s E (k + p)))
    (hin0 : ∀ m, n0 = m + 1 → ∀ p v q, p ≤ d.size → itemN D d m p = .ok v q → q ≤ d.size)
    (fr fr' : Nat) (f : Fam) (n p : Nat) (hp : p ≤ d.size) {v : V} {q : Nat} (h : famR D d (inD D d n0) fr f n p = .ok v q) : q ≤ d.size ∧ Sh k D' v q (famR D s (inD D s D') fr' f n (k + p)) := by
  cases f with
  | word => simp only [famR, R.ok.injEq] at h ⊢; obtain ⟨rfl, rfl⟩ := h; exact ⟨hp, Sh.flat (by split <;> simp [V.nul, V.boo, depV]) rfl⟩
  | whole => simp only [famR, R.ok.injEq] at h ⊢; obtain ⟨rfl, rfl⟩ := h; exact ⟨hp, Sh.flat (F.whole _) rfl⟩
  | below => simp only [famR, R.ok.injEq] at h ⊢; obtain ⟨rfl, rfl⟩ := h; exact ⟨hp, Sh.flat (F.below _) rfl⟩
  | single => simp only [famR, R.ok.injEq] at h ⊢; obtain ⟨rfl, rfl⟩ := h; exact ⟨hp, Sh.flat (F.single _) rfl⟩
  | double => simp only [famR, R.ok.injEq] at h ⊢; obtain ⟨rfl, rfl⟩ := h; exact ⟨hp, Sh.flat (F.double _) rfl⟩
  | signed =>
    simp only [famR] at h ⊢
    cases ht : takeR d p n with
    | bad c r => rw [ht] at h; cases h
    | ok t p1 =>
      rw [ht] at h
      simp only [R.bind, R.ok.injEq] at h
      obtain ⟨rfl, rfl⟩ := h
      obtain ⟨e, hq⟩ := take_shift S hp ht
      exact ⟨hq, Sh.flat (F.twos _) (by rw [e]; rfl)⟩
  | bytes =>
    simp only [famR] at h ⊢
    cases ht : takeR d p n with
    | bad c r => rw [ht] at h; cases h
    | ok t p1 =>
      rw [ht] at h
      simp only [R.bind, R.ok.injEq] at h
      obtain ⟨rfl, rfl⟩ := h
      obtain ⟨e, hq⟩ := take_shift S hp ht
      exact ⟨hq, Sh.flat (by simp [V.byt, depV]) (by rw [e]; rfl)⟩
  | text =>
    simp only [famR] at h ⊢
    cases ht : textR d p n with
    | bad c r => rw [ht] at h; cases h
    | ok t p1 =>
      rw [ht] at h
      simp only [R.bind, R.ok.injEq] at h
      obtain ⟨rfl, rfl⟩ := h
      obtain ⟨e, hq⟩ := text_shift S hp ht
      exact ⟨hq, Sh.flat (by simp [V.tex, depV]) (by rw [e]; rfl)⟩
  | ext =>
    simp only [famR] at h ⊢
    cases ht : takeR d p 1 with
    | bad c r => rw [ht] at h; cases h
    | ok t p1 =>
      rw [ht] at h
      simp only [R.bind] at h
      obtain ⟨e, hp1⟩ := take_shift S hp ht
      cases hu : takeR d p1 n with
      | bad c r => rw [hu] at h; cases h
      | ok u p2 =>
        rw [hu] at h
        simp only [R.ok.injEq] at h
        obtain ⟨rfl, rfl⟩ := h
        obtain ⟨e2, hq⟩ := take_shift S hp1 hu
        refine ⟨hq, Sh.flat (by simp [V.xt, depV]) ?_⟩
        rw [e]
        simp only [R.bind]
        rw [e2]
  | list =>
    cases n0 with
    | zero => cases h
    | succ m =>
      simp only [famR, inD] at h
      cases ht : roundsN (itemN D d m) n p [] with
      | bad c r => rw [ht] at h; cases h
      | ok l p1 =>
        rw [ht] at h
        simp only [R.bind, R.ok.injEq] at h
        obtain ⟨rfl, rfl⟩ := h
        have hdep : depV (V.lis l) = depL l + 1 := by simp [V.lis, depV]
        cases D' with
        | zero =>
          refine ⟨?_, fun h => by omega, fun _ => ⟨fr', rfl⟩⟩
          exact (rounds_shift (k := 0) (D' := 0) (it' := fun p => match itemN D d m p with | .ok v q => if depV v = 0 then .ok v q else .bad 5 0 | .bad c r => .bad c r) (fun p v q hp hv => ⟨hin0 m rfl p v q hp hv, fun h0 => by
            simp only [Nat.zero_add, hv]; rw [if_pos (by omega)], fun h0 => by simp only [Nat.zero_add, hv]; rw [if_neg (by omega)]; exact ⟨0, rfl⟩⟩) n p [] l p1 hp ht).1
        | succ E =>
          obtain ⟨hq, m', hl, -, h3, h4⟩ := rounds_shift (fun p v q hp hv => hin m E rfl rfl p v q hp hv) n p [] l p1 hp ht
          rw [List.nil_append] at hl
          subst hl
          refine ⟨hq, fun hd => ?_, fun hd => ?_⟩
          · simp only [famR, inD]
            rw [h3 (by omega)]
            rfl
          · obtain ⟨r, hr⟩ := h4 (by omega)
            exact ⟨r, by simp only [famR, inD]; rw [hr]; rfl⟩
  | pairs =>
    cases n0 with
    | zero => cases h
    | succ m =>
      simp only [famR, inD] at h
      cases ht : pairsN D (itemN D d m) n p [] with
      | bad c r => rw [ht] at h; cases h
      | ok l p1 =>
        rw [ht] at h
        simp only [R.bind, R.ok.injEq] at h
        obtain ⟨rfl, rfl⟩ := h
        have hdep : depV (V.map l) = depL l + 1 := by simp [V.map, depV]
        cases D' with
        | zero =>
          refine ⟨?_, fun h => by omega, fun _ => ⟨fr', rfl⟩⟩
          exact (pairs_shift (k := 0) (D' := 0) (it' := fun p => match itemN D d m p with | .ok v q => if depV v = 0 then .ok v q else .bad 5 0 | .bad c r => .bad c r) (fun p v q hp hv => ⟨hin0 m rfl p v q hp hv, fun h0 => by
            simp only [Nat.zero_add, hv]; rw [if_pos (by omega)], fun h0 => by simp only [Nat.zero_add, hv]; rw [if_neg (by omega)]; exact ⟨0, rfl⟩⟩) n p [] l p1 hp ht).1
        | succ E =>
          obtain ⟨hq, m', hl, h3, h4⟩ := pairs_shift (fun p v q hp hv => hin m E rfl rfl p v q hp hv) n p [] l p1 hp ht
          rw [depL_nil] at hl
          refine ⟨hq, fun hd => ?_, fun hd => ?_⟩
          · simp only [famR, inD]
            rw [h3 (by omega)]
            rfl
          · obtain ⟨r, hr⟩ := h4 (by omega)
            exact ⟨r, by simp only [famR, inD]; rw [hr]; rfl⟩
theorem itemF_shift (n0 D' : Nat) (hin : ∀ m E, n0 = m + 1 → D' = E + 1 → ∀ p v q, p ≤ d.size → itemN D d m p = .ok v q → q ≤ d.size ∧ Sh k E v q (itemN D s E (k + p)))
  (hin0 : ∀ m, n0 = m + 1 → ∀ p v q, p ≤ d.size → itemN D d m p = .ok v q → q ≤ d.size) (p : Nat) (v : V) (q : Nat) (hp : p ≤ d.size) (h : itemF D d (inD D d n0) p = .ok v q) :
    q ≤ d.size ∧ Sh k D' v q (itemF D s (inD D s D') (k + p)) := by
  unfold itemF at h ⊢
  cases ht : takeR d p 1 with
  | bad c r => rw [ht] at h; cases h
  | ok t p1 =>
    rw [ht] at h
    obtain ⟨e, hp1⟩ := take_shift S hp ht
    rw [e]
    simp only [R.bind] at h ⊢
    cases hpk : pickN ((bl t).headD 0) with
    | none => rw [hpk] at h; cases h
    | some x =>
      obtain ⟨f, n, w⟩ := x
      rw [hpk] at h
      simp only at h ⊢
      by_cases hw : w = 0
      · rw [if_pos hw] at h ⊢
        exact fam_shift S F hin hin0 _ _ f n p1 hp1 h
      · rw [if_neg hw] at h ⊢
        cases hu : takeR d p1 w with
        | bad c r => rw [hu] at h; cases h
        | ok u p2 =>
          rw [hu] at h
          obtain ⟨e2, hp2⟩ := take_shift S hp1 hu
          rw [e2]
          exact fam_shift S F hin hin0 _ _ f _ p2 hp2 h
theorem item_shift : ∀ (n0 D' p : Nat) (v : V) (q : Nat), p ≤ d.size → itemN D d n0 p = .ok v q → q ≤ d.size ∧ Sh k D' v q (itemN D s D' (k + p)) := by
  intro n0
  induction n0 with
  | zero =>
    intro D' p v q hp h
    rw [itemN_inD] at h ⊢
    exact itemF_shift S F 0 D' (fun m E h => by omega) (fun m h => by omega) p v q hp h
  | succ n0 ih =>
    intro D' p v q hp h
    rw [itemN_inD] at h ⊢
    exact itemF_shift S F (n0 + 1) D' (fun m E h1 h2 p v q hp hv => (by have e : n0 = m := (by omega); subst e; exact ih E p v q hp hv))
      (fun m h1 p v q hp hv => (by have e : n0 = m := (by omega); subst e; exact (ih 0 p v q hp hv).1)) p v q hp h
end
end Go.Proofs.YticnefkdkkjgcaaGreatDoor

/- cruciblelaw01.SameValue answers true of what is one value. -/
namespace Go.Proofs.YticnefkdkkjgcaaGreatDoor
open Go.RowKit

theorem range_keep0 {w w' : World} {b o : Nat} {l : List Value} (k : Keep nob w w') (h : w.rangeAt b o l) : w'.rangeAt b o l := fun j v hj => k.cell (h j v hj) (fun h => h)
theorem cells_val0 {w : World} {b p : Nat} {r : Raw} (h : w.rangeAt b p (ER.cells r)) : w.cell? ⟨b, p, none⟩ = some (.int .i8 (r.kind : Int)) ∧ w.cell? ⟨b, p + 1, none⟩ = some (.int .u64 (r.n : Int)) ∧ w.cell? ⟨b, p + 2, none⟩ = some (.bool r.neg) ∧
    w.cell? ⟨b, p + 3, none⟩ = some (.slice r.mA r.mL r.mC) ∧ w.cell? ⟨b, p + 4, none⟩ = some (.int .u64 (r.bits : Int)) ∧ w.cell? ⟨b, p + 5, none⟩ = some (.int .i8 r.ext) ∧ w.cell? ⟨b, p + 6, none⟩ = some (.string r.text) ∧ w.cell? ⟨b, p + 7, none⟩ = some (.slice r.kA r.kL r.kC) :=
  ⟨h 0 _ rfl, h 1 _ rfl, h 2 _ rfl, h 3 _ rfl, h 4 _ rfl, h 5 _ rfl, h 6 _ rfl, h 7 _ rfl⟩
theorem nobD0 (D : Nat → Prop) : ∀ b, D b → ¬ nob b := fun _ _ h => h
end Go.Proofs.YticnefkdkkjgcaaGreatDoor

/- cruciblelaw23.wide: a first byte and a number in n bytes, as a string. -/
namespace Go.Proofs.YticnefkdkkjgcaaGreatDoor
open Go.RowKit

/-- the string of these bytes -/
def Bt (l : List Nat) : ByteArray := ⟨(l.map UInt8.ofNat).toArray⟩
theorem bl_Bt {l : List Nat} (h : B8 l) : bl (Bt l) = l := by
  unfold bl Bt
  simp only [List.map_map]
  have : ∀ x ∈ l, (UInt8.toNat ∘ UInt8.ofNat) x = x := fun x hx => by simp [Nat.mod_eq_of_lt (h x hx)]
  rw [List.map_congr_left this, List.map_id']
theorem Bt_bl (s : ByteArray) : Bt (bl s) = s := by
  unfold bl Bt
  simp only [List.map_map]
  have : ∀ x ∈ s.data.toList, (UInt8.ofNat ∘ UInt8.toNat) x = x := fun x _ => by simp
  rw [List.map_congr_left this, List.map_id']
theorem Bt_size (l : List Nat) : (Bt l).size = l.length := by simp [Bt, ByteArray.size]
/-- a number's n bytes, the highest first -/
def beL : Nat → Nat → List Nat
  | 0, _ => []
  | n + 1, x => x / 256 ^ n % 256 :: beL n x
theorem beL_len : ∀ n x, (beL n x).length = n
  | 0, _ => rfl
  | n + 1, x => by simp [beL, beL_len n x]
theorem beL_8 : ∀ n x, B8 (beL n x)
  | 0, _ => fun _ h => by simp [beL] at h
  | n + 1, x => fun y h => by
    simp only [beL, List.mem_cons] at h
    rcases h with rfl | h
    · exact Nat.mod_lt _ (by decide)
    · exact beL_8 n x y h
theorem B8.cons {a : Nat} {l : List Nat} (ha : a < 256) (h : B8 l) : B8 (a :: l) := fun x hx => by
  rcases List.mem_cons.1 hx with rfl | hx
  · exact ha
  · exact h x hx
theorem B8.app {l l' : List Nat} (h : B8 l) (h' : B8 l') : B8 (l ++ l') := fun x hx => by
  rcases List.mem_append.1 hx with hx | hx
  · exact h x hx
  · exact h' x hx

/-- 'string(b)' -/
theorem str_conv {w : World} {A : Option Addr} {c n : Nat} {l : List Nat} (h : Sl EB w A c l) (hn : l.length = n) (hb : B8 l) (h0 : l ≠ []) : (convert 114 9 (.slice A n c)).run Tryz.prog w = .ok (.string (Bt l)) w := by
  obtain ⟨b, o, rfl, hr⟩ := h.at_ h0
  have hlen : (l.map UInt8.ofNat).length = n := by simpa using hn
  subst hlen
  refine run_convert_bytes_back (P := Tryz.prog) w 114 9 5 ⟨b, o, none⟩ c (l.map UInt8.ofNat) Tryz.underlying114 Tryz.underlying5 Tryz.underlying9 (fun j hj => ?_)
  have hj' : j < l.length := by simpa using hj
  obtain ⟨b1, o1, e1, hx⟩ := h.elem (i := j) hj'
  simp only [Option.some.injEq, Addr.mk.injEq, and_true] at e1
  obtain ⟨rfl, rfl⟩ := e1
  have hx1 := hx 0 _ rfl
  have hv : l[j] < 256 := hb _ (List.getElem_mem hj')
  simp only [EB, Nat.add_zero, Nat.mul_one] at hx1
  rw [Addr.add_mid, hx1]
  simp [Nat.mod_eq_of_lt hv]

theorem infoByte : (Tryz.prog.info? 5).map (fun i => (i.zero, i.size, i.bytes)) = some (some (.int .u8 0), EB.sz, 1) := by kernel_rfl
end Go.Proofs.YticnefkdkkjgcaaGreatDoor

/- What is read behind a head: bytes, extensions, texts, lists, maps. Plain Lean over the readings. -/
namespace Go.Proofs.YticnefkdkkjgcaaGreatDoor
variable (D : Words)

/-- a reading's value, if it is one -/
def R.val? {α : Type} : R α → Option α
  | .ok v _ => some v
  | .bad _ _ => none

theorem beN_fold1 : ∀ (l : List Nat) (a : Nat), l.foldl (fun x b => x * 256 + b) a = a * 256 ^ l.length + l.foldl (fun x b => x * 256 + b) 0
  | [], a => by simp
  | b :: l, a => by
    rw [List.foldl_cons, List.foldl_cons, beN_fold1 l (a * 256 + b), beN_fold1 l (0 * 256 + b), List.length_cons, Nat.pow_succ]
    rw [Nat.add_mul, Nat.zero_mul, Nat.zero_add, Nat.mul_assoc, Nat.mul_comm 256, Nat.add_assoc]
theorem beN_be : ∀ n x, beN (beL n x) = x % 256 ^ n
  | 0, x => by simp [beL, beN, Nat.mod_one]
  | n + 1, x => by
    have ih := beN_be n x
    unfold beN at ih ⊢
    rw [beL, List.foldl_cons, beN_fold1, ih, beL_len, Nat.zero_mul, Nat.zero_add, Nat.pow_succ, Nat.mod_mul, Nat.mul_comm, Nat.add_comm]
theorem beN_be_lt {n x : Nat} (h : x < 256 ^ n) : beN (beL n x) = x := by rw [beN_be, Nat.mod_eq_of_lt h]
theorem Bt_app (l l' : List Nat) : Bt (l ++ l') = Bt l ++ Bt l' := by
  apply ByteArray.ext
  simp [Bt, ByteArray.data_append]

/-- the head and how many it tells -/
theorem head_wide {f w x n : Nat} {fam : Fam} (hf : f < 256) (hp : pickN f = some (fam, n, w)) (hw : w ≠ 0) (hx : x < 256 ^ w) (r : ByteArray) (inner : Option (Nat → R V)) :
    itemF D (Bt (f :: beL w x) ++ r) inner 0 = famR D (Bt (f :: beL w x) ++ r) inner 0 fam x (w + 1) := by
  have S := Shift.first (Bt (f :: beL w x)) r
  have hsz : (Bt (f :: beL w x)).size = w + 1 := by rw [Bt_size, List.length_cons, beL_len]
  have t1 : takeR (Bt (f :: beL w x)) 0 1 = .ok (Bt [f]) 1 := by
    unfold takeR
    rw [if_neg (by rw [hsz]; omega)]
    congr 1
    apply ByteArray.ext
    simp [Bt, ByteArray.data_extract]
  have t2 : takeR (Bt (f :: beL w x)) 1 w = .ok (Bt (beL w x)) (1 + w) := by
    unfold takeR
    rw [if_neg (by rw [hsz]; omega)]
    congr 1
    have := Shift.last (Bt [f]) (Bt (beL w x))
    have h1 := this.ex 0 w (by rw [Bt_size, beL_len]; omega)
    rw [← Bt_app] at h1
    rw [Bt_size, List.length_singleton, Nat.add_zero, Nat.zero_add] at h1
    rw [show f :: beL w x = [f] ++ beL w x from rfl, h1]
    have hz := ByteArray.extract_zero_size (b := Bt (beL w x))
    rwa [Bt_size, beL_len] at hz
  have e1 := (take_shift S (Nat.zero_le _) t1).1
  have e2 := (take_shift S (by rw [hsz]; omega) t2).1
  simp only [Nat.zero_add] at e1 e2
  unfold itemF
  rw [e1]
  simp only [R.bind]
  rw [bl_Bt (B8.cons hf (fun _ h => by simp at h))]
  simp only [List.headD_cons, hp]
  rw [if_neg hw, e2]
  simp only
  rw [bl_Bt (beL_8 w x), beN_be_lt hx, Nat.add_comm 1 w]
theorem head_short {f n : Nat} {fam : Fam} (hf : f < 256) (hp : pickN f = some (fam, n, 0)) (r : ByteArray) (inner : Option (Nat → R V)) :
    itemF D (Bt [f] ++ r) inner 0 = famR D (Bt [f] ++ r) inner 0 fam n 1 := by
  have S := Shift.first (Bt [f]) r
  have t1 : takeR (Bt [f]) 0 1 = .ok (Bt [f]) 1 := by
    unfold takeR
    rw [if_neg (by rw [Bt_size]; simp)]
    congr 1
  have e1 := (take_shift S (Nat.zero_le _) t1).1
  simp only [Nat.zero_add] at e1
  unfold itemF
  rw [e1]
  simp only [R.bind]
  rw [bl_Bt (B8.cons hf (fun _ h => by simp at h))]
  simp only [List.headD_cons, hp, if_true]
theorem take_all (r : ByteArray) : takeR r 0 r.size = .ok r r.size := by
  unfold takeR
  rw [if_neg (by omega), Nat.zero_add, ByteArray.extract_zero_size]
theorem take_rest (h r : ByteArray) : takeR (h ++ r) h.size r.size = .ok r (h ++ r).size := by
  have := (take_shift (Shift.last h r) (Nat.zero_le _) (take_all r)).1
  rwa [Nat.add_zero, ← ByteArray.size_append] at this

theorem bytes_rest (h r : ByteArray) (inner : Option (Nat → R V)) (fr : Nat) : famR D (h ++ r) inner fr .bytes r.size h.size = .ok (V.byt r) (h ++ r).size := by
  simp only [famR]
  rw [take_rest]
  rfl
theorem ext_rest (h : ByteArray) (t : Nat) (ht : t < 256) (r : ByteArray) (inner : Option (Nat → R V)) (fr : Nat) : famR D (h ++ (Bt [t] ++ r)) inner fr .ext r.size h.size = .ok (V.xt (if t < 128 then (t : Int) else (t : Int) - 256) r) (h ++ (Bt [t] ++ r)).size := by
  have t1 : takeR (Bt [t]) 0 1 = .ok (Bt [t]) 1 := take_all (Bt [t])
  have S1 : Shift (Bt [t]) (h ++ (Bt [t] ++ r)) h.size := by rw [← ByteArray.append_assoc]; exact Shift.mk' h (Bt [t]) r
  have e1 := (take_shift S1 (Nat.zero_le _) t1).1
  have e2 := take_rest (h ++ Bt [t]) r
  rw [ByteArray.append_assoc, ByteArray.size_append, Bt_size, List.length_singleton] at e2
  rw [Nat.add_zero] at e1
  simp only [famR]
  rw [e1]
  simp only [R.bind]
  rw [e2]
  simp only
  rw [bl_Bt (B8.cons ht (fun _ h => by simp at h))]
  simp only [List.headD_cons]
  rfl
/-- a text that is all the rest: by its bytes alone -/
theorem text_rest (h r : ByteArray) (inner : Option (Nat → R V)) (fr : Nat) : famR D (h ++ r) inner fr .text r.size h.size = match scanN r.size (bl r) r.size with
    | some i => .bad 3 (h.size + i)
    | none => .ok (V.tex r) (h ++ r).size := by
  have e0 : (h ++ r).size - h.size = r.size := by rw [ByteArray.size_append]; omega
  have e1 : (h ++ r).extract h.size (h.size + min r.size r.size) = r := by
    have := (Shift.last h r).ex 0 r.size (by omega)
    rw [Nat.add_zero, Nat.zero_add, ByteArray.extract_zero_size] at this
    rwa [Nat.min_self]
  simp only [famR, textR]
  rw [e0, e1]
  cases scanN r.size (bl r) r.size with
  | some i => rfl
  | none => rw [take_rest]; rfl

/-! ### documents side by side -/
def cat : List ByteArray → ByteArray
  | [] => ByteArray.empty
  | d :: l => d ++ cat l
theorem cat_app : ∀ (l : List ByteArray) (d : ByteArray), cat (l ++ [d]) = cat l ++ d
  | [], d => by simp [cat]
  | x :: l, d => by simp only [List.cons_append, cat, cat_app l d, ByteArray.append_assoc]
/-- a document of this value -/
def Doc (d : ByteArray) (v : V) : Prop := readN D d = .ok v d.size ∧ depV v ≤ 127
theorem doc_item {d : ByteArray} {v : V} (h : Doc D d v) : itemN D d 128 0 = .ok v d.size := by
  obtain ⟨h, _⟩ := h
  unfold readN at h
  cases hi : itemN D d 128 0 with
  | bad c q => rw [hi] at h; cases h
  | ok v' q =>
    rw [hi] at h
    simp only [R.bind] at h
    split at h
    · cases h
    · simp only [R.ok.injEq] at h
      obtain ⟨rfl, rfl⟩ := h
      rfl
/-- of a document that is read the value is the document's -/
theorem read_doc {d : ByteArray} {v : V} {q : Nat} (h : readN D d = .ok v q) : q = d.size := by
  unfold readN at h
  have hle := itemN_le D d 128 0 (Nat.zero_le _)
  cases hi : itemN D d 128 0 with
  | bad c q => rw [hi] at h; cases h
  | ok v' q' =>
    rw [hi] at h hle
    simp only [R.bind] at h
    split at h
    · cases h
    · simp only [R.ok.injEq] at h
      obtain ⟨rfl, rfl⟩ := h
      have : q' ≤ d.size := hle
      omega
section
variable {D}
theorem rounds_cat (F : Flat D) : ∀ (ds : List (ByteArray × V)) (pre post : ByteArray) (acc : List V), (∀ x ∈ ds, Doc D x.1 x.2) →
    roundsN (itemN D (pre ++ (cat (ds.map (·.1)) ++ post)) 127) ds.length pre.size acc = .ok (acc ++ ds.map (·.2)) (pre.size + (cat (ds.map (·.1))).size)
  | [], pre, post, acc, _ => by simp [roundsN, cat, ByteArray.size_empty]
  | (d, v) :: ds, pre, post, acc, h => by
    have hd := h (d, v) List.mem_cons_self
    have e : pre ++ (cat (((d, v) :: ds).map (·.1)) ++ post) = pre ++ d ++ (cat (ds.map (·.1)) ++ post) := by simp only [List.map_cons, cat, ByteArray.append_assoc]
    have hs := (item_shift (Shift.mk' pre d (cat (ds.map (·.1)) ++ post)) F 128 127 0 v d.size (Nat.zero_le _) (doc_item D hd)).2.1 hd.2
    have ih := rounds_cat F ds (pre ++ d) post (acc ++ [v]) (fun x hx => h x (List.mem_cons_of_mem _ hx))
    rw [e, List.length_cons, roundsN]
    rw [Nat.add_zero] at hs
    rw [hs]
    simp only [R.bind]
    rw [← ByteArray.size_append, ih]
    simp only [List.map_cons, cat, ByteArray.size_append, List.append_assoc, List.singleton_append, Nat.add_assoc]
/-- keys from j on, each with a document -/
def pairsD : Nat → List (ByteArray × V) → List (ByteArray)
  | _, [] => []
  | j, (d, _) :: ds => (Bt (0xcd :: beL 2 j) ++ d) :: pairsD (j + 1) ds
def pairsV (D : Words) : Nat → List (ByteArray × V) → List V
  | _, [] => []
  | j, (_, v) :: ds => D.whole j :: v :: pairsV D (j + 1) ds
theorem pairsD_app : ∀ (ds : List (ByteArray × V)) (j : Nat) (d : ByteArray) (v : V), pairsD j (ds ++ [(d, v)]) = pairsD j ds ++ [Bt (0xcd :: beL 2 (j + ds.length)) ++ d]
  | [], j, d, v => by simp [pairsD]
  | (x, y) :: ds, j, d, v => by simp only [List.cons_append, pairsD, pairsD_app ds (j + 1) d v, List.length_cons]; rw [show j + 1 + ds.length = j + (ds.length + 1) by omega]
theorem pairsV_len (j : Nat) (ds : List (ByteArray × V)) : (pairsV D j ds).length = 2 * ds.length := by
  induction ds generalizing j with
  | nil => rfl
  | cons x ds ih => obtain ⟨d, v⟩ := x; simp only [pairsV, List.length_cons, ih]; omega
theorem key_doc (j : Nat) (hj : j < 65536) (F : Flat D) : Doc D (Bt (0xcd :: beL 2 j)) (D.whole j) := by
  refine ⟨?_, by rw [F.whole]; exact Nat.zero_le _⟩
  unfold readN
  have h := head_wide D (f := 0xcd) (w := 2) (x := j) (n := 0) (fam := .whole) (by decide) rfl (by decide) hj ByteArray.empty (inD D (Bt (0xcd :: beL 2 j) ++ ByteArray.empty) 128)
  rw [ByteArray.append_empty] at h
  rw [itemN_inD, h]
  simp only [famR, R.bind]
  rw [if_neg (by rw [Bt_size, List.length_cons, beL_len]; omega), Bt_size, List.length_cons, beL_len]
theorem pairs_cat (F : Flat D) (hc : ∀ i, i < 15 → D.cmp (D.whole i) (D.whole (i + 1)) < 0) : ∀ (ds : List (ByteArray × V)) (j : Nat) (pre post : ByteArray) (acc : List V), (∀ x ∈ ds, Doc D x.1 x.2) → j + ds.length ≤ 15 → acc.length = 2 * j →
    (0 < j → acc.getD (2 * (j - 1)) V.nul = D.whole (j - 1)) →
    pairsN D (itemN D (pre ++ (cat (pairsD j ds) ++ post)) 127) ds.length pre.size acc = .ok (acc ++ pairsV D j ds) (pre.size + (cat (pairsD j ds)).size)
  | [], j, pre, post, acc, _, _, _, _ => by simp [pairsN, cat, pairsD, pairsV, ByteArray.size_empty]
  | (d, v) :: ds, j, pre, post, acc, h, hj, hacc, hk => by
    have hd := h (d, v) List.mem_cons_self
    simp only [List.length_cons] at hj
    have hkd := key_doc (D := D) j (by omega) F
    obtain ⟨kb, hkb⟩ : ∃ kb, kb = Bt (0xcd :: beL 2 j) := ⟨_, rfl⟩
    rw [← hkb] at hkd
    have e : pre ++ (cat (pairsD j ((d, v) :: ds)) ++ post) = pre ++ kb ++ (d ++ (cat (pairsD (j + 1) ds) ++ post)) := by simp only [pairsD, cat, ByteArray.append_assoc, hkb]
    have e2 : pre ++ (cat (pairsD j ((d, v) :: ds)) ++ post) = (pre ++ kb) ++ d ++ (cat (pairsD (j + 1) ds) ++ post) := by simp only [pairsD, cat, ByteArray.append_assoc, hkb]
    have h1 := (item_shift (Shift.mk' pre kb (d ++ (cat (pairsD (j + 1) ds) ++ post))) F 128 127 0 (D.whole j) kb.size (Nat.zero_le _) (doc_item D hkd)).2.1 hkd.2
    have h2 := (item_shift (Shift.mk' (pre ++ kb) d (cat (pairsD (j + 1) ds) ++ post)) F 128 127 0 v d.size (Nat.zero_le _) (doc_item D hd)).2.1 hd.2
    rw [← e, Nat.add_zero] at h1
    rw [← e2, Nat.add_zero] at h2
    have hpl : placeN D acc (D.whole j) (acc.length / 2) = j := by
      rw [hacc, Nat.mul_div_cancel_left _ (by decide)]
      cases j with
      | zero => rfl
      | succ i =>
        have h3 := hk (Nat.succ_pos _)
        simp only [Nat.add_sub_cancel] at h3
        unfold placeN
        rw [h3, if_neg (by have := hc i (by omega); omega)]
    have hdup : dupN D acc j (D.whole j) = false := by simp [dupN, hacc]
    have hins : insN acc j (D.whole j) v = acc ++ [D.whole j, v] := by
      unfold insN
      rw [List.take_of_length_le (by omega), List.drop_eq_nil_of_le (by omega)]
    have ih := pairs_cat F hc ds (j + 1) (pre ++ kb ++ d) post (acc ++ [D.whole j, v]) (fun x hx => h x (List.mem_cons_of_mem _ hx)) (by omega) (by simp [hacc]; omega) (fun _ => by
      rw [Nat.add_sub_cancel, List.getD_eq_getElem?_getD, List.getElem?_append_right (by omega), hacc, Nat.sub_self]
      rfl)
    rw [List.length_cons, pairsN, h1]
    simp only [R.bind]
    rw [hpl, hdup, if_neg (by simp), ← ByteArray.size_append, h2]
    simp only
    rw [hins]
    have e3 : pre ++ (cat (pairsD j ((d, v) :: ds)) ++ post) = pre ++ kb ++ d ++ (cat (pairsD (j + 1) ds) ++ post) := e2
    rw [e3, ← ByteArray.size_append, ih]
    simp only [pairsD, pairsV, cat, ByteArray.size_append, hkb, List.append_assoc, List.cons_append, List.nil_append]
    congr 1
    omega
/-- no value is nested deeper than there was room -/
theorem item_dep (F : Flat D) {s : ByteArray} {n p q : Nat} {v : V} (hp : p ≤ s.size) (h : itemN D s n p = .ok v q) : depV v ≤ n := by
  have S : Shift s s 0 := ⟨by omega, fun p n _ => by simp⟩
  have h1 := (item_shift S F n n p v q hp h).2.2
  rcases Nat.lt_or_ge n (depV v) with h2 | h2
  · obtain ⟨r, hr⟩ := h1 h2
    rw [Nat.zero_add, h] at hr
    cases hr
  · exact h2
theorem read_dep (F : Flat D) {s : ByteArray} {q : Nat} {v : V} (h : readN D s = .ok v q) : depV v ≤ 128 := by
  unfold readN at h
  cases hi : itemN D s 128 0 with
  | bad c q => rw [hi] at h; cases h
  | ok v' q' =>
    rw [hi] at h
    simp only [R.bind] at h
    split at h
    · cases h
    · simp only [R.ok.injEq] at h
      obtain ⟨rfl, rfl⟩ := h
      exact item_dep F (Nat.zero_le _) hi
end
theorem flatWd : Flat Wd := by
  refine ⟨fun n => ?_, fun n => ?_, fun n => ?_, fun n => ?_, fun t => ?_⟩
  · show depV (wholeV n) = 0; simp [wholeV, V.int, depV]
  · show depV (belowV n) = 0; simp [belowV, V.int, depV]
  · show depV (ofV 23 (-149) 8 n) = 0; unfold ofV; split <;> simp [V.int, V.flo, depV]
  · show depV (ofV 52 (-1074) 11 n) = 0; unfold ofV; split <;> simp [V.int, V.flo, depV]
  · show depV (twosV t) = 0; simp [twosV, V.int, depV]
theorem wholes_rise : ((List.range 15).all fun i => decide (cmpV (wholeV i) (wholeV (i + 1)) < 0)) = true := by kernel_rfl
theorem whole_rise (i : Nat) (h : i < 15) : Wd.cmp (Wd.whole i) (Wd.whole (i + 1)) < 0 := of_decide_eq_true (List.all_eq_true.1 wholes_rise i (List.mem_range.2 h))
end Go.Proofs.YticnefkdkkjgcaaGreatDoor

/- value.container, value.Depth; packread.Next and Read of too many bytes; cruciblelaw23.same. -/
namespace Go.Proofs.YticnefkdkkjgcaaGreatDoor
open Go.RowKit

def isC (k : Nat) : Bool := k == 7 || k == 8 || k == 9
set_option maxRecDepth 100000 in
theorem container_ok (r : Raw) (w : World) : Calls Tryz.prog 30 #[ER.val r] w fun e w' => e = .returned (.bool (isC r.kind)) ∧ Keep nob w w' := by
  obtain ⟨k, rn, rneg, rA, rL, rC, rbits, rext, rtext, rkA, rkL, rkC⟩ := r
  simp only [ER]
  by_cases h7 : k = 7
  · subst h7
    go_enter Tryz.func30, Tryz.ntmps30
    go_wp2
    go_ret
    exact ⟨rfl, (Keep.refl _ _).alloc _⟩
  · have d7 : ((k : Int) == 7) = false := by rw [beq_eq_false_iff_ne]; omega
    by_cases h8 : k = 8
    · subst h8
      go_enter Tryz.func30, Tryz.ntmps30
      go_wp2
      go_ret
      exact ⟨rfl, (Keep.refl _ _).alloc _⟩
    · have d8 : ((k : Int) == 8) = false := by rw [beq_eq_false_iff_ne]; omega
      by_cases h9 : k = 9
      · subst h9
        go_enter Tryz.func30, Tryz.ntmps30
        go_wp2
        go_ret
        exact ⟨rfl, (Keep.refl _ _).alloc _⟩
      · have d9 : ((k : Int) == 9) = false := by rw [beq_eq_false_iff_ne]; omega
        have e : isC k = false := by simp [isC, h7, h8, h9]
        rw [e]
        clear h7 h8 h9 e
        go_enter Tryz.func30, Tryz.ntmps30
        go_wp2
        go_ret
        exact ⟨rfl, (Keep.refl _ _).alloc _⟩

theorem depL_take {l : List V} {i : Nat} (h : i < l.length) : depL (l.take (i + 1)) = max (depL (l.take i)) (depV l[i]) := by
  rw [List.take_succ_eq_append_getElem h, depL_app, depL_cons, depL_nil]
  omega
theorem depL_le {l : List V} {i : Nat} (h : i < l.length) : depV l[i] ≤ depL l := by
  have := depL_app (l.take i) (l.drop i)
  rw [List.take_append_drop, List.drop_eq_getElem_cons h, depL_cons] at this
  omega
theorem depL_take_le (l : List V) (i : Nat) : depL (l.take i) ≤ depL l := by
  have := depL_app (l.take i) (l.drop i)
  rw [List.take_append_drop] at this
  omega
end Go.Proofs.YticnefkdkkjgcaaGreatDoor

/- A region that draws its order: a head of operations that keep all memory that there was (some of them with a result that hangs on the order: a new block), then a tail that waits for them. One walk in the order of the text serves every order. -/
namespace Go.Proofs.YticnefkdkkjgcaaGreatDoor
open Go.RowKit

/-- what a result that hangs on the order is made of: a value, a number (of a block), a Value's cells -/
structure Ltr where
  v : Value
  n : Nat
  r : Raw
/-- the next block -/
def Ltr.at_ (w : World) : Ltr := ⟨undef, w.heap.size, Raw.zero⟩
instance : Inhabited Ltr := ⟨⟨undef, 0, Raw.zero⟩⟩
/-- how an operation is told: of no world; out of memory, one value; a new block; a call that answers c; a call that answers mk x, of which F x is told; a store -/
inductive Kd where
  | p | kv | al
  | cv (c : Value)
  | cf (mk : Ltr → Value) (F : Ltr → World → Prop)
  | st
def Kd.isP : Kd → Bool
  | .p => true
  | _ => false
def Kd.isSt : Kd → Bool
  | .st => true
  | _ => false
abbrev Ctx := List (Nat × (World → Prop))
/-- what stays told while memory is kept -/
def Stays (S : Nat → Prop) (F : Ltr → World → Prop) : Prop := ∀ v w w', F v w → Keep S w w' → F v w'
/-- the worlds on the way: nothing but the blocks of S is written, and I holds -/
structure Cls (S : Nat → Prop) (I : World → Prop) (w0 w : World) : Prop where
  keep : Keep S w0 w
  inv : I w
theorem Keep.of_kept {S : Nat → Prop} {w w' : World} (h : Kept w w') : Keep S w w' := h.mono (fun _ _ h => h.elim)

section
variable {P : Program} {ops : Array Oper}

def runUpon (post : Value → World → Prop) : Result Next → Prop
  | .ok (.value u) w' => post u w'
  | .ok .skip w' => post undef w'
  | _ => False
def callUpon (P : Program) (w : World) (post : Value → World → Prop) : Result Next → Prop
  | .ok (.enter f args) w' => w' = w ∧ Calls P f args w (fun e w'' => ∃ v, e = .returned v ∧ post v w'')
  | _ => False
/-- the facts of the operations that number k waits for -/
def Avail (ops : Array Oper) (k : Nat) (Γ : Ctx) (w : World) : Prop := ∀ p ∈ Γ, Region.waitsFor .any ops k p.1 = true → p.2 w

/-- THE WALK. -/
def wpFx (P : Program) (ops : Array Oper) (S : Nat → Prop) (I : World → Prop) (w0 : World) (Q : Act → Ctx → Prop) : List Kd → Nat → List Oper → Act → Ctx → Prop
  | _, _, [], a, Γ => Q a Γ
  | [], _, _ :: _, _, _ => False
  | kd :: ks, k, o :: l, a, Γ =>
    if Region.wanted o (yielded ops a.tmps) = true then
      match kd with
      | .p => ∃ v, (∀ w, (execOp a.eval o).run P w = .ok (.value v) w) ∧ wpFx P ops S I w0 Q ks (k + 1) l (a.put o.dst v) Γ
      | .kv => ∃ v, (∀ w, Cls S I w0 w → Avail ops k Γ w → runUpon (fun u w' => u = v ∧ Kept w w') ((execOp a.eval o).run P w)) ∧ wpFx P ops S I w0 Q ks (k + 1) l (a.put o.dst v) Γ
      | .al => ∃ (mk : Ltr → Value) (F : Ltr → World → Prop), Stays S F ∧ (∀ w, Cls S I w0 w → Avail ops k Γ w → runUpon (fun u w' => Kept w w' ∧ u = mk (.at_ w) ∧ F (.at_ w) w') ((execOp a.eval o).run P w)) ∧ ∀ x, wpFx P ops S I w0 Q ks (k + 1) l (a.put o.dst (mk x)) ((k, F x) :: Γ)
      | .cv c => (∀ w, Cls S I w0 w → Avail ops k Γ w → callUpon P w (fun u w' => u = c ∧ Kept w w') ((execOp a.eval o).run P w)) ∧ wpFx P ops S I w0 Q ks (k + 1) l (a.put o.dst c) Γ
      | .cf mk F => Stays S F ∧ (∀ w, Cls S I w0 w → Avail ops k Γ w → callUpon P w (fun u w' => Kept w w' ∧ ∃ x, u = mk x ∧ F x w') ((execOp a.eval o).run P w)) ∧ ∀ x, wpFx P ops S I w0 Q ks (k + 1) l (a.put o.dst (mk x)) ((k, F x) :: Γ)
      | .st => ∃ F : World → Prop, (∀ w w', F w → Kept w w' → F w') ∧ (∀ w, Cls S I w0 w → Avail ops k Γ w → runUpon (fun u w' => u = undef ∧ Keep S w w' ∧ I w' ∧ F w') ((execOp a.eval o).run P w)) ∧ wpFx P ops S I w0 Q ks (k + 1) l (a.put o.dst undef) ((k, F) :: Γ)
    else wpFx P ops S I w0 Q ks (k + 1) l (a.put o.dst undef) Γ

/-- what is known of operation k in state A: its value c, what is told of it f -/
def Ob (P : Program) (S : Nat → Prop) (I : World → Prop) (ops : Array Oper) (w0 : World) (σ : Nat → Ltr) (kd : Kd) (k : Nat) (o : Oper) (A : Act) (Av : World → Prop) (c : Value) (f : World → Prop) : Prop :=
  (Region.wanted o (yielded ops A.tmps) = false ∧ c = undef ∧ ∀ w, f w) ∨
  (Region.wanted o (yielded ops A.tmps) = true ∧ match kd with
    | .p => (∀ w, (execOp A.eval o).run P w = .ok (.value c) w) ∧ ∀ w, f w
    | .kv => ∀ w, Cls S I w0 w → Av w → runUpon (fun u w' => Kept w w' ∧ (σ k = .at_ w → c = u ∧ f w')) ((execOp A.eval o).run P w)
    | .al => ∀ w, Cls S I w0 w → Av w → runUpon (fun u w' => Kept w w' ∧ (σ k = .at_ w → c = u ∧ f w')) ((execOp A.eval o).run P w)
    | .cv c' => c = c' ∧ (∀ w, f w) ∧ ∀ w, Cls S I w0 w → Av w → callUpon P w (fun u w' => u = c' ∧ Kept w w') ((execOp A.eval o).run P w)
    | .cf mk F => c = mk (σ k) ∧ f = F (σ k) ∧ ∀ w, Cls S I w0 w → Av w → callUpon P w (fun u w' => Kept w w' ∧ ∃ x, u = mk x ∧ F x w') ((execOp A.eval o).run P w)
    | .st => ∀ w, Cls S I w0 w → Av w → runUpon (fun u w' => (Keep S w w' ∧ I w') ∧ (σ k = .at_ w → c = u ∧ f w')) ((execOp A.eval o).run P w))
/-- how long what is told of an operation stays -/
def Stay1 (S : Nat → Prop) (kd : Kd) (f : World → Prop) : Prop := (∀ w w', f w → Kept w w' → f w') ∧ (kd.isSt = false → ∀ w w', f w → Keep S w w' → f w')

def putL : List Oper → List Value → Act → Act
  | o :: l, c :: cs, a => putL l cs (a.put o.dst c)
  | _, _, a => a

theorem runUpon_mono {post post' : Value → World → Prop} (h : ∀ v w, post v w → post' v w) {r : Result Next} (hr : runUpon post r) : runUpon post' r := by
  unfold runUpon at *
  split at hr
  · exact h _ _ hr
  · exact h _ _ hr
  · exact hr.elim

/-- The walk, at letters σ for what hangs on the order. -/
theorem fx_obs {S : Nat → Prop} {I : World → Prop} {w0 : World} {Q : Act → Ctx → Prop} (σ : Nat → Ltr) : ∀ (ks : List Kd) (k : Nat) (l : List Oper) (a : Act) (Γ : Ctx), wpFx P ops S I w0 Q ks k l a Γ →
    ∃ (cs : List Value) (fs : List (World → Prop)) (Γ' : Ctx), cs.length = l.length ∧ fs.length = l.length ∧ (∀ (i : Nat) f kd, fs[i]? = some f → ks[i]? = some kd → Stay1 S kd f) ∧ Q (putL l cs a) Γ' ∧
      (∀ w, (∀ p ∈ Γ, p.2 w) → (∀ f ∈ fs, f w) → ∀ p ∈ Γ', p.2 w) ∧
      ∀ i o c f, l[i]? = some o → cs[i]? = some c → fs[i]? = some f → ∃ kd, ks[i]? = some kd ∧ Ob P S I ops w0 σ kd (k + i) o (putL (l.take i) (cs.take i) a)
        (fun w => Avail ops (k + i) Γ w ∧ ∀ j f, j < i → fs[j]? = some f → Region.waitsFor .any ops (k + i) (k + j) = true → f w) c f
  | _, _, [], a, Γ, h => ⟨[], [], Γ, rfl, rfl, by simp, by simpa [wpFx, putL] using h, fun _ h _ => h, by simp⟩
  | [], _, _ :: _, _, _, h => by simp [wpFx] at h
  | kd :: ks, k, o :: l, a, Γ, h => by
    -- one step, whatever it is: the value c, the fact f, the context behind it
    have step : ∀ (c : Value) (f : World → Prop) (Γ1 : Ctx), Stay1 S kd f → Ob P S I ops w0 σ kd k o a (fun w => Avail ops k Γ w) c f →
        (∀ p ∈ Γ1, p ∈ Γ ∨ p = (k, f)) → wpFx P ops S I w0 Q ks (k + 1) l (a.put o.dst c) Γ1 →
        ∃ (cs : List Value) (fs : List (World → Prop)) (Γ' : Ctx), cs.length = (o :: l).length ∧ fs.length = (o :: l).length ∧ (∀ (i : Nat) f kd', fs[i]? = some f → (kd :: ks)[i]? = some kd' → Stay1 S kd' f) ∧ Q (putL (o :: l) cs a) Γ' ∧
          (∀ w, (∀ p ∈ Γ, p.2 w) → (∀ f ∈ fs, f w) → ∀ p ∈ Γ', p.2 w) ∧
          ∀ i o1 c f, (o :: l)[i]? = some o1 → cs[i]? = some c → fs[i]? = some f → ∃ kd', (kd :: ks)[i]? = some kd' ∧ Ob P S I ops w0 σ kd' (k + i) o1 (putL ((o :: l).take i) (cs.take i) a)
            (fun w => Avail ops (k + i) Γ w ∧ ∀ j f, j < i → fs[j]? = some f → Region.waitsFor .any ops (k + i) (k + j) = true → f w) c f := by
      intro c f Γ1 hf hob hΓ h1
      obtain ⟨cs, fs, Γ', h2, h3, h4, h5, h6, h7⟩ := fx_obs σ ks (k + 1) l (a.put o.dst c) Γ1 h1
      refine ⟨c :: cs, f :: fs, Γ', by simp [h2], by simp [h3], ?_, h5, ?_, ?_⟩
      · intro i g kd' hg hkd'
        cases i with
        | zero =>
          simp only [List.getElem?_cons_zero, Option.some.injEq] at hg hkd'
          subst hg hkd'
          exact hf
        | succ i =>
          simp only [List.getElem?_cons_succ] at hg hkd'
          exact h4 i g kd' hg hkd'
      · intro w hw hall
        refine h6 w (fun p hp => ?_) (fun g hg => hall g (List.mem_cons_of_mem _ hg))
        rcases hΓ p hp with hp | rfl
        · exact hw p hp
        · exact hall _ List.mem_cons_self
      · intro i o1 c1 f1 ho1 hc1 hf1
        cases i with
        | zero =>
          simp only [List.getElem?_cons_zero, Option.some.injEq] at ho1 hc1 hf1
          subst ho1 hc1 hf1
          refine ⟨kd, rfl, ?_⟩
          simp only [List.take_zero, putL, Nat.add_zero]
          rcases hob with h | ⟨hw, hob⟩
          · exact .inl h
          · refine .inr ⟨hw, ?_⟩
            cases kd with
            | p => exact hob
            | kv => exact fun w hk hav => hob w hk hav.1
            | al => exact fun w hk hav => hob w hk hav.1
            | cv c' => exact ⟨hob.1, hob.2.1, fun w hk hav => hob.2.2 w hk hav.1⟩
            | cf mk F => exact ⟨hob.1, hob.2.1, fun w hk hav => hob.2.2 w hk hav.1⟩
            | st => exact fun w hk hav => hob w hk hav.1
        | succ i =>
          simp only [List.getElem?_cons_succ] at ho1 hc1 hf1
          obtain ⟨kd', hkd, hob'⟩ := h7 i o1 c1 f1 ho1 hc1 hf1
          refine ⟨kd', by simpa using hkd, ?_⟩
          rw [show k + (i + 1) = k + 1 + i by omega]
          simp only [List.take_succ_cons, putL]
          have hav : ∀ w, (Avail ops (k + 1 + i) Γ w ∧ ∀ j g, j < i + 1 → (f :: fs)[j]? = some g → Region.waitsFor .any ops (k + 1 + i) (k + j) = true → g w) →
              (Avail ops (k + 1 + i) Γ1 w ∧ ∀ j g, j < i → fs[j]? = some g → Region.waitsFor .any ops (k + 1 + i) (k + 1 + j) = true → g w) := by
            rintro w ⟨e1, e2⟩
            refine ⟨fun p hp hwt => ?_, fun j g hj hg hwt => e2 (j + 1) g (by omega) (by simpa using hg) (by rw [show k + (j + 1) = k + 1 + j by omega]; exact hwt)⟩
            rcases hΓ p hp with hp | rfl
            · exact e1 p hp hwt
            · exact e2 0 f (by omega) (by simp) (by simpa using hwt)
          rcases hob' with h | ⟨hw, hob'⟩
          · exact .inl h
          · refine .inr ⟨hw, ?_⟩
            cases kd' with
            | p => exact hob'
            | kv => exact fun w hk h => hob' w hk (hav w h)
            | al => exact fun w hk h => hob' w hk (hav w h)
            | cv c' => exact ⟨hob'.1, hob'.2.1, fun w hk h => hob'.2.2 w hk (hav w h)⟩
            | cf mk F => exact ⟨hob'.1, hob'.2.1, fun w hk h => hob'.2.2 w hk (hav w h)⟩
            | st => exact fun w hk h => hob' w hk (hav w h)
    simp only [wpFx] at h
    by_cases hw : Region.wanted o (yielded ops a.tmps) = true
    · rw [if_pos hw] at h
      cases kd with
      | p =>
        obtain ⟨v, h1, h2⟩ := h
        exact step v (fun _ => True) Γ ⟨fun _ _ _ _ => trivial, fun _ _ _ _ _ => trivial⟩ (.inr ⟨hw, h1, fun _ => trivial⟩) (fun p hp => .inl hp) h2
      | kv =>
        obtain ⟨v, h1, h2⟩ := h
        exact step v (fun _ => True) Γ ⟨fun _ _ _ _ => trivial, fun _ _ _ _ _ => trivial⟩ (.inr ⟨hw, fun w hk hav => runUpon_mono (fun u w' ⟨e, hk'⟩ => ⟨hk', fun _ => ⟨e.symm, trivial⟩⟩) (h1 w hk hav)⟩) (fun p hp => .inl hp) h2
      | al =>
        obtain ⟨mk, F, hF, h1, h2⟩ := h
        exact step (mk (σ k)) (F (σ k)) ((k, F (σ k)) :: Γ) ⟨fun w w' hf hk => hF _ w w' hf (.of_kept hk), fun _ w w' => hF _ w w'⟩ (.inr ⟨hw, fun w hk hav => runUpon_mono (fun u w' ⟨hk', hu, hf⟩ => ⟨hk', fun e => ⟨by rw [e]; exact hu.symm, by rw [e]; exact hf⟩⟩) (h1 w hk hav)⟩)
          (fun p hp => (List.mem_cons.1 hp).symm) (h2 _)
      | cv c =>
        obtain ⟨h1, h2⟩ := h
        exact step c (fun _ => True) Γ ⟨fun _ _ _ _ => trivial, fun _ _ _ _ _ => trivial⟩ (.inr ⟨hw, rfl, fun _ => trivial, h1⟩) (fun p hp => .inl hp) h2
      | cf mk F =>
        obtain ⟨hF, h1, h2⟩ := h
        exact step (mk (σ k)) (F (σ k)) ((k, F (σ k)) :: Γ) ⟨fun w w' hf hk => hF _ w w' hf (.of_kept hk), fun _ w w' => hF _ w w'⟩ (.inr ⟨hw, rfl, rfl, h1⟩) (fun p hp => (List.mem_cons.1 hp).symm) (h2 _)
      | st =>
        obtain ⟨F, hF, h1, h2⟩ := h
        exact step undef F ((k, F) :: Γ) ⟨hF, fun h => by cases h⟩ (.inr ⟨hw, fun w hk hav => runUpon_mono (fun u w' ⟨hu, hk', hi, hf⟩ => ⟨⟨hk', hi⟩, fun _ => ⟨hu.symm, hf⟩⟩) (h1 w hk hav)⟩) (fun p hp => (List.mem_cons.1 hp).symm) h2
    · rw [if_neg hw] at h
      exact step undef (fun _ => True) Γ ⟨fun _ _ _ _ => trivial, fun _ _ _ _ _ => trivial⟩ (.inl ⟨by simpa using hw, rfl, fun _ => trivial⟩) (fun p hp => .inl hp) h

/-! ### states in which some operations have come up -/
def dstAt (ops : Array Oper) (k : Nat) : Option Tmp := (ops[k]?).bind (·.dst)
def putSel (ops : Array Oper) (sel : Nat → Bool) (c : Nat → Value) (a : Act) : Nat → Act
  | 0 => a
  | k + 1 => if sel k = true then (putSel ops sel c a k).put (dstAt ops k) (c k) else putSel ops sel c a k

theorem putSel_succ (sel : Nat → Bool) (c : Nat → Value) (a : Act) (k : Nat) : putSel ops sel c a (k + 1) = if sel k = true then (putSel ops sel c a k).put (dstAt ops k) (c k) else putSel ops sel c a k := rfl
theorem put_tmps_ne (a : Act) (d : Option Tmp) (v : Value) (t : Tmp) (h : d ≠ some t) : (a.put d v).tmps[t]? = a.tmps[t]? := by
  cases d with
  | none => rfl
  | some d =>
    have : d ≠ t := fun e => h (by rw [e])
    simp [Act.put, Array.getElem?_setIfInBounds_ne this]
theorem put_size (a : Act) (d : Option Tmp) (v : Value) : (a.put d v).tmps.size = a.tmps.size := by
  cases d <;> simp [Act.put]
theorem putSel_size (sel : Nat → Bool) (c : Nat → Value) (a : Act) : ∀ m, (putSel ops sel c a m).tmps.size = a.tmps.size
  | 0 => rfl
  | m + 1 => by unfold putSel; split <;> simp [put_size, putSel_size sel c a m]
theorem put_tmps_same (a b : Act) (t : Tmp) (v : Value) (h : a.tmps.size = b.tmps.size) : (a.put (some t) v).tmps[t]? = (b.put (some t) v).tmps[t]? := by
  simp [Act.put, Array.getElem?_setIfInBounds, h]
/-- what stands in a temporary hangs on the operations that write it -/
theorem putSel_at (sel sel' : Nat → Bool) (c : Nat → Value) (a : Act) (t : Tmp) : ∀ m, (∀ j, j < m → dstAt ops j = some t → sel j = sel' j) → (putSel ops sel c a m).tmps[t]? = (putSel ops sel' c a m).tmps[t]?
  | 0, _ => rfl
  | m + 1, h => by
    have ih := putSel_at sel sel' c a t m (fun j hj => h j (by omega))
    by_cases hd : dstAt ops m = some t
    · have hs := h m (by omega) hd
      unfold putSel
      rw [hs]
      split
      · rw [hd]
        exact put_tmps_same _ _ _ _ (by rw [putSel_size, putSel_size])
      · exact ih
    · unfold putSel
      split <;> split <;> simp [put_tmps_ne _ _ _ _ hd, ih]
theorem putSel_end (sel : Nat → Bool) (c : Nat → Value) (a : Act) (t : Tmp) (k : Nat) : ∀ m, k ≤ m → (∀ j, k ≤ j → j < m → dstAt ops j ≠ some t) → (putSel ops sel c a m).tmps[t]? = (putSel ops sel c a k).tmps[t]?
  | 0, hk, _ => by rw [show k = 0 by omega]
  | m + 1, hk, h => by
    rcases Nat.lt_or_ge m k with hm | hm
    · rw [show k = m + 1 by omega]
    · have ih := putSel_end sel c a t k m hm (fun j h1 h2 => h j h1 (by omega))
      rw [putSel_succ]
      split
      · rw [put_tmps_ne _ _ _ _ (h m hm (by omega)), ih]
      · exact ih
theorem putSel_set (sel : Nat → Bool) (c : Nat → Value) (a : Act) (j : Nat) (hj : sel j = false) : ∀ m, j < m → (∀ i d, i < m → i ≠ j → dstAt ops j = some d → dstAt ops i ≠ some d) →
    putSel ops (fun i => sel i || i == j) c a m = (putSel ops sel c a m).put (dstAt ops j) (c j)
  | 0, hm, _ => by omega
  | m + 1, hm, hd => by
    by_cases e : m = j
    · subst e
      have h0 : ∀ m', m' ≤ m → putSel ops (fun i => sel i || i == m) c a m' = putSel ops sel c a m' := by
        intro m'
        induction m' with
        | zero => intro _; rfl
        | succ m' ih =>
          intro hm'
          have hne : (m' == m) = false := by rw [beq_eq_false_iff_ne]; omega
          unfold putSel
          rw [ih (by omega), hne, Bool.or_false]
      unfold putSel
      rw [h0 m (Nat.le_refl _), hj]
      simp
    · have ih := putSel_set sel c a j hj m (by omega) (fun i d hi => hd i d (by omega))
      have hne : (m == j) = false := by rw [beq_eq_false_iff_ne]; exact e
      unfold putSel
      rw [ih, hne, Bool.or_false]
      split
      · exact Act.put_comm _ _ _ (fun d hd' => hd m d (by omega) e hd')
      · rfl

theorem eval_of_tmps {a b : Act} {x : Operand} (h : ∀ t, x = .tmp t → a.tmps[t]? = b.tmps[t]?) : a.eval x = b.eval x := by
  cases x with
  | tmp t =>
    have := h t rfl
    simp only [Act.eval, Array.getD_eq_getD_getElem?, this]
  | _ => rfl
theorem execOp_of_tmps {a b : Act} (o : Oper) (hs : ∀ cs b, o.op ≠ .select cs b) (h : ∀ t ∈ o.looksAt ops, a.tmps[t]? = b.tmps[t]?) : execOp a.eval o = execOp b.eval o :=
  execOp_congr o hs fun x hx => eval_of_tmps fun t e => h t (by
    subst e
    exact List.mem_append_left _ (List.mem_filterMap.2 ⟨.tmp t, by simpa using hx, rfl⟩))
theorem wanted_of_tmps {a b : Act} (o : Oper) (h : ∀ t ∈ o.looksAt ops, a.tmps[t]? = b.tmps[t]?) : Region.wanted o (yielded ops a.tmps) = Region.wanted o (yielded ops b.tmps) := by
  unfold Region.wanted
  cases hg : o.guard with
  | none => rfl
  | some gw =>
    obtain ⟨g, want⟩ := gw
    have hy : yielded ops a.tmps g = yielded ops b.tmps g := by
      unfold yielded
      cases ht : (ops[g]?).bind (·.dst) with
      | none => rfl
      | some t =>
        have := h t (by simp [Oper.looksAt, hg, ht])
        simp [this]
    simp only [hy]

/-! ### what the kernel looks at -/
def firstK (ops : Array Oper) (k : Nat) : Array Bool := Array.ofFn (n := ops.size) fun i => decide (i.val < k)
def lookOk (ops : Array Oper) (n : Nat) : Bool := (List.range n).all fun k => match ops[k]? with
  | none => false
  | some o => (o.looksAt ops).all fun t => (List.range n).all fun j => !(dstAt ops j == some t) || (decide (j < k) && Region.waitsFor .any ops k j)
def dstsOk (ops : Array Oper) (n : Nat) : Bool := (List.range n).all fun k => match dstAt ops k with
  | none => true
  | some d => (List.range n).all fun j => j == k || !(dstAt ops j == some d)
def depsOk (ops : Array Oper) (n : Nat) : Bool := (List.range n).all fun k => match ops[k]? with
  | none => false
  | some o => o.after.all fun e => !Region.binds .any e || decide (e.on < k)
/-- each operation of the tail waits for an earlier one of the tail, or, maybe through others of the head, for all of the head that is not late -/
def shutB (ops : Array Oper) (n : Nat) (late : List Nat) : Bool :=
  (List.range ops.size).all fun t => decide (t < n) || (List.range t).any (fun s => decide (n ≤ s) && Region.waitsFor .any ops t s) ||
    (List.range n).all fun i => late.contains i || Region.waitsFor .any ops t i || (List.range n).any fun j => decide (i < j) && !late.contains j && Region.waitsFor .any ops j i
def lateOk (ops : Array Oper) (ks : List Kd) (late : List Nat) : Bool := late.all fun i => ((ks[i]?).map Kd.isP).getD false && Region.free .any ops (firstK ops i) i
/-- at most one store -/
def oneSt (ks : List Kd) (n : Nat) : Bool := (List.range n).all fun i => (List.range n).all fun j => i == j || !(((ks[i]?).map Kd.isSt).getD false && ((ks[j]?).map Kd.isSt).getD false)
def fxB (ops : Array Oper) (ks : List Kd) (n : Nat) (late : List Nat) : Bool :=
  Region.noSelect ops && decide (n ≤ ops.size) && ks.length == n && lookOk ops n && dstsOk ops n && depsOk ops n && shutB ops n late && lateOk ops ks late && oneSt ks n && Region.seqB .any ops (ops.size - n) n (firstK ops n)

theorem firstK_get (ops : Array Oper) (k i : Nat) (d : Bool) (hi : i < ops.size) : (firstK ops k).getD i d = decide (i < k) := by
  simp [firstK, hi]
theorem shut_of {n : Nat} {late : List Nat} {listed : Array Bool} (hc : shutB ops n late = true) (inv : HeadInv .any ops n listed) {t : Nat} (ht : n ≤ t) :
    ∀ (d i : Nat), n - i = d → i < n → late.contains i = false → listed.getD i true = false → t ∉ Region.ready .any ops listed := by
  intro d
  induction d using Nat.strongRecOn with
  | _ d ih =>
    intro i hd hi his hopen hr
    obtain ⟨_, ot, hot, hall⟩ := mem_ready.1 hr
    have htl : t < ops.size := (Array.getElem?_eq_some_iff.1 hot).1
    have h1 := List.all_eq_true.1 hc t (List.mem_range.2 htl)
    simp only [Bool.or_eq_true, decide_eq_true_eq] at h1
    rcases h1 with (h1 | h1) | h1
    · omega
    · obtain ⟨s, hs1, hs2⟩ := List.any_eq_true.1 h1
      simp only [Bool.and_eq_true, decide_eq_true_eq] at hs2
      have hst := List.mem_range.1 hs1
      obtain ⟨o', ho', e, he, hb, hon⟩ := Region.waitsFor_spec hs2.2
      cases ho'.symm.trans hot
      have h2 := hall e he hb
      rw [hon, getD_both (inv.tail s hs2.1 (by omega))] at h2
      cases h2
    · have h2 := List.all_eq_true.1 h1 i (List.mem_range.2 hi)
      simp only [Bool.or_eq_true] at h2
      rcases h2 with (h2 | h2) | h2
      · rw [his] at h2; cases h2
      · obtain ⟨o', ho', e, he, hb, hon⟩ := Region.waitsFor_spec h2
        cases ho'.symm.trans hot
        have h3 := hall e he hb
        rw [hon, getD_both hopen] at h3
        cases h3
      · obtain ⟨j, hj, hj2⟩ := List.any_eq_true.1 h2
        simp only [Bool.and_eq_true, decide_eq_true_eq, Bool.not_eq_true'] at hj2
        have hjn := List.mem_range.1 hj
        obtain ⟨oj, hoj, e, he, hb, hon⟩ := Region.waitsFor_spec hj2.2
        cases hl : listed.getD j false with
        | true =>
          have h3 := inv.closed j oj hoj hl e he hb
          rw [hon, getD_both hopen] at h3
          cases h3
        | false =>
          have hjs : j < ops.size := (Array.getElem?_eq_some_iff.1 hoj).1
          exact ih (n - j) (by have := hj2.1.1; omega) j rfl hjn hj2.1.2 (getD_in (by rw [inv.size]; omega) hl) hr

theorem least_open (p : Nat → Bool) : ∀ n, (∃ i, i < n ∧ p i = false) → ∃ i, i < n ∧ p i = false ∧ ∀ j, j < i → p j = true
  | 0, ⟨i, h, _⟩ => by omega
  | n + 1, ⟨i, h, hi⟩ => by
    by_cases hx : ∃ i, i < n ∧ p i = false
    · obtain ⟨i, h1, h2, h3⟩ := least_open p n hx
      exact ⟨i, by omega, h2, h3⟩
    · refine ⟨i, h, hi, fun j hj => ?_⟩
      cases hp : p j with
      | true => rfl
      | false => exact absurd ⟨j, by omega, hp⟩ hx

/-- what holds in each state on the way: C: the values, Fc: what is told, by the letters -/
structure FInv (S : Nat → Prop) (I : World → Prop) (ops : Array Oper) (w0 : World) (n : Nat) (a0 : Act) (C : (Nat → Ltr) → Nat → Value) (Fc : (Nat → Ltr) → Nat → World → Prop) (listed : Array Bool) (a : Act) (w : World) : Prop where
  head : HeadInv .any ops n listed
  kept : Cls S I w0 w
  at_ : ∃ τ : Nat → Ltr, ∀ σ : Nat → Ltr, (∀ k, k < n → listed.getD k false = true → σ k = τ k) → a = putSel ops (fun k => listed.getD k false) (C σ) a0 n ∧ ∀ k, k < n → listed.getD k false = true → Fc σ k w

theorem get_set (listed : Array Bool) (j k : Nat) (hj : j < listed.size) : (listed.setIfInBounds j true).getD k false = (listed.getD k false || k == j) := by
  by_cases h : j = k
  · subst h; simp [hj]
  · rw [getD_set_ne false h, beq_false_of_ne (Ne.symm h), Bool.or_false]

section
variable {S : Nat → Prop} {I : World → Prop} {w0 : World} {n : Nat} {a0 : Act} {C : (Nat → Ltr) → Nat → Value} {Fc : (Nat → Ltr) → Nat → World → Prop} {ks : List Kd}
  (hst : ∀ σ k kd, ks[k]? = some kd → Stay1 S kd (Fc σ k)) (hI : ∀ w w', I w → Kept w w' → I w') (hone : oneSt ks n = true) (hksn : ks.length = n)
  (hob : ∀ σ k o, k < n → ops[k]? = some o → ∃ kd, ks[k]? = some kd ∧ Ob P S I ops w0 σ kd k o (putSel ops (fun _ => true) (C σ) a0 k) (fun w => ∀ j, j < k → Region.waitsFor .any ops k j = true → Fc σ j w) (C σ k) (Fc σ k))
  (hn : n ≤ ops.size) (hlk : lookOk ops n = true) (hds : dstsOk ops n = true)

include hlk in
theorem same_looks {σ : Nat → Ltr} {listed : Array Bool} {j : Nat} {o : Oper} (ho : ops[j]? = some o) (hjn : j < n) (hall : ∀ e ∈ o.after, Region.binds .any e = true → listed.getD e.on false = true) :
    ∀ t ∈ o.looksAt ops, (putSel ops (fun k => listed.getD k false) (C σ) a0 n).tmps[t]? = (putSel ops (fun _ => true) (C σ) a0 j).tmps[t]? := by
  intro t ht
  have h1 := List.all_eq_true.1 hlk j (List.mem_range.2 hjn)
  simp only [ho] at h1
  have h2 := List.all_eq_true.1 h1 t ht
  have h3 : ∀ i, i < n → dstAt ops i = some t → i < j ∧ listed.getD i false = true := fun i hi hd => by
    have h4 := List.all_eq_true.1 h2 i (List.mem_range.2 hi)
    simp only [hd, beq_self_eq_true, Bool.not_true, Bool.false_or, Bool.and_eq_true, decide_eq_true_eq] at h4
    obtain ⟨oj, hoj, e, he, hb, hon⟩ := Region.waitsFor_spec h4.2
    cases hoj.symm.trans ho
    have := hall e he hb
    rw [hon] at this
    exact ⟨h4.1, this⟩
  rw [putSel_end _ _ _ t j n (by omega) (fun i h5 h6 hd => by have := (h3 i h6 hd).1; omega)]
  exact putSel_at _ _ _ _ t j (fun i hi hd => (h3 i (by omega) hd).2)

include hn hds in
theorem put_next {σ : Nat → Ltr} {listed : Array Bool} {j : Nat} (hs : listed.size = ops.size) (hjn : j < n) (hun : listed.getD j false = false) :
    putSel ops (fun k => (listed.setIfInBounds j true).getD k false) (C σ) a0 n = (putSel ops (fun k => listed.getD k false) (C σ) a0 n).put (dstAt ops j) (C σ j) := by
  have e : (fun k => (listed.setIfInBounds j true).getD k false) = fun k => listed.getD k false || k == j := funext fun k => get_set listed j k (by omega)
  rw [e]
  refine putSel_set (ops := ops) (fun k => listed.getD k false) (C σ) a0 j hun n hjn (fun i d hi hij hd hd' => ?_)
  have h1 := List.all_eq_true.1 hds j (List.mem_range.2 hjn)
  simp only [hd] at h1
  have h2 := List.all_eq_true.1 h1 i (List.mem_range.2 hi)
  simp only [Bool.or_eq_true, beq_iff_eq, hij, false_or, Bool.not_eq_true', beq_eq_false_iff_ne] at h2
  exact h2 hd'

include hst hn hds hone hksn in
/-- from one state to the next: the value u, the world w' -/
theorem finv_next {listed : Array Bool} {a : Act} {w w' : World} {j : Nat} {o : Oper} {u : Value} (x : Ltr) (inv : FInv S I ops w0 n a0 C Fc listed a w) (hj : j ∈ Region.ready .any ops listed) (hjn : j < n) (ho : ops[j]? = some o) (hk : Keep S w w') (hi : I w') {kd : Kd} (hkd : ks[j]? = some kd) (hk2 : kd.isSt = false → Kept w w')
    (h : ∀ σ : Nat → Ltr, (∀ k, k < n → listed.getD k false = true → Fc σ k w) → a = putSel ops (fun k => listed.getD k false) (C σ) a0 n → σ j = x → C σ j = u ∧ Fc σ j w') : FInv S I ops w0 n a0 C Fc (listed.setIfInBounds j true) (a.put o.dst u) w' := by
  obtain ⟨hd, hkp, τ, hτ⟩ := inv
  have hun := getD_both (mem_ready.1 hj).1
  have hsz : j < listed.size := by rw [hd.size]; omega
  have hdst : dstAt ops j = o.dst := by simp [dstAt, ho]
  refine ⟨hd.set hj hjn, ⟨hkp.keep.then_ hk, hi⟩, fun i => if i = j then x else τ i, fun σ hσ => ?_⟩
  have hσj : σ j = x := by
    have h0 : σ j = if j = j then x else τ j := hσ j hjn (by rw [get_set _ _ _ hsz]; simp)
    rwa [if_pos rfl] at h0
  have hold : ∀ k, k < n → listed.getD k false = true → σ k = τ k := fun k hk hl => by
    have h0 : σ k = if k = j then x else τ k := hσ k hk (by rw [get_set _ _ _ hsz, hl, Bool.true_or])
    rwa [if_neg (fun e => by subst e; rw [hun] at hl; cases hl)] at h0
  obtain ⟨e1, e2⟩ := hτ σ hold
  obtain ⟨e3, e4⟩ := h σ e2 e1 hσj
  refine ⟨?_, fun k hk' hl => ?_⟩
  · rw [put_next hn hds hd.size hjn hun, hdst, e3, ← e1]
  · rw [get_set _ _ _ hsz, Bool.or_eq_true] at hl
    rcases hl with hl | hl
    · have hkj : k ≠ j := fun e => by subst e; rw [hun] at hl; cases hl
      obtain ⟨kd', hkd'⟩ : ∃ kd', ks[k]? = some kd' := ⟨ks[k]'(by omega), List.getElem?_eq_getElem (by omega)⟩
      obtain ⟨s1, s2⟩ := hst σ k kd' hkd'
      cases hs : kd.isSt with
      | false => exact s1 w w' (e2 k hk' hl) (hk2 hs)
      | true =>
        have h1 := List.all_eq_true.1 (List.all_eq_true.1 hone k (List.mem_range.2 hk')) j (List.mem_range.2 hjn)
        rw [hkd, hkd'] at h1
        simp only [Option.map_some, Option.getD_some, hs, Bool.and_true, Bool.or_eq_true, beq_iff_eq, hkj, false_or, Bool.not_eq_true'] at h1
        exact s2 h1 w w' (e2 k hk' hl) hk
    · rw [beq_iff_eq] at hl
      subst hl
      exact e4

include hst hob hn hlk hds hI hone hksn in
theorem finv_step (hsel : Region.noSelect ops = true) {Q : Exit → Act → World → Prop} {listed : Array Bool} {a : Act} {w : World} {j : Nat} (inv : FInv S I ops w0 n a0 C Fc listed a w) (hj : j ∈ Region.ready .any ops listed) (hjn : j < n) :
    wpOp P ops Q j (fun a' w' => FInv S I ops w0 n a0 C Fc (listed.setIfInBounds j true) a' w') a w := by
  obtain ⟨_, o, ho, hall⟩ := mem_ready.1 hj
  have looks : ∀ σ : Nat → Ltr, a = putSel ops (fun k => listed.getD k false) (C σ) a0 n → (execOp a.eval o = execOp (putSel ops (fun _ => true) (C σ) a0 j).eval o ∧ Region.wanted o (yielded ops a.tmps) = Region.wanted o (yielded ops (putSel ops (fun _ => true) (C σ) a0 j).tmps)) := fun σ e => by
    have h1 := same_looks (ops := ops) (a0 := a0) (C := C) (σ := σ) hlk ho hjn hall
    rw [← e] at h1
    exact ⟨execOp_of_tmps o (Region.noSelect_spec hsel j o · · ho) h1, wanted_of_tmps o h1⟩
  have avail : ∀ σ : Nat → Ltr, (∀ k, k < n → listed.getD k false = true → Fc σ k w) → ∀ i, i < j → Region.waitsFor .any ops j i = true → Fc σ i w := fun σ h i hi hw => by
    obtain ⟨oj, hoj, e, he, hb, hon⟩ := Region.waitsFor_spec hw
    cases hoj.symm.trans ho
    have := hall e he hb
    rw [hon] at this
    exact h i (by omega) this
  obtain ⟨τ, hτ⟩ := inv.at_
  obtain ⟨e1, e2⟩ := hτ τ (fun _ _ _ => rfl)
  obtain ⟨l1, l2⟩ := looks τ e1
  unfold wpOp
  simp only [ho]
  by_cases hw : Region.wanted o (yielded ops a.tmps) = true
  · rw [if_pos hw]
    refine .inl ?_
    obtain ⟨kd, hkd, hobτ⟩ := hob τ j o hjn ho
    rcases hobτ with ⟨h0, _⟩ | ⟨_, hobτ⟩
    · rw [l2, h0] at hw; cases hw
    have others : ∀ σ : Nat → Ltr, a = putSel ops (fun k => listed.getD k false) (C σ) a0 n → Ob P S I ops w0 σ kd j o (putSel ops (fun _ => true) (C σ) a0 j) (fun w => ∀ i, i < j → Region.waitsFor .any ops j i = true → Fc σ i w) (C σ j) (Fc σ j) ∧ ¬ Region.wanted o (yielded ops (putSel ops (fun _ => true) (C σ) a0 j).tmps) = false := fun σ e => by
      obtain ⟨kd', hkd', h⟩ := hob σ j o hjn ho
      obtain rfl : kd' = kd := Option.some.inj (hkd'.symm.trans hkd)
      exact ⟨h, by rw [← (looks σ e).2, hw]; simp⟩
    unfold Oper.wp
    cases kd with
    | p =>
      rw [l1, hobτ.1 w]
      refine finv_next hst hone hksn hn hds default inv hj hjn ho (Keep.refl _ _) inv.kept.inv hkd (fun _ => Keep.refl _ _) (fun σ h1 h2 h3 => ?_)
      obtain ⟨h4, h5⟩ := others σ h2
      rcases h4 with h4 | ⟨_, h4⟩
      · exact absurd h4.1 h5
      · have := h4.1 w
        rw [← (looks σ h2).1, l1, hobτ.1 w] at this
        simp only [Result.ok.injEq, Next.value.injEq, and_true] at this
        exact ⟨this.symm, h4.2 w⟩
    | kv =>
      have hr := hobτ w inv.kept (avail τ e2)
      have ho' : ∀ σ : Nat → Ltr, (∀ k, k < n → listed.getD k false = true → Fc σ k w) → a = putSel ops (fun k => listed.getD k false) (C σ) a0 n → runUpon (fun u w' => Kept w w' ∧ (σ j = .at_ w → C σ j = u ∧ Fc σ j w')) ((execOp a.eval o).run P w) := fun σ h1 h2 => by
        obtain ⟨h4, h5⟩ := others σ h2
        rcases h4 with h4 | ⟨_, h4⟩
        · exact absurd h4.1 h5
        · rw [(looks σ h2).1]; exact h4 w inv.kept (avail σ h1)
      rw [← l1] at hr
      generalize (execOp a.eval o).run P w = r at *
      cases r with
      | halt x w' => exact hr.elim
      | ok nx w' =>
        cases nx <;> simp only [runUpon] at hr <;> simp only [Oper.upon]
        · exact finv_next hst hone hksn hn hds (.at_ w) inv hj hjn ho (.of_kept hr.1) (hI _ _ inv.kept.inv hr.1) hkd (fun _ => hr.1) (fun σ h1 h2 h3 => (ho' σ h1 h2).2 h3)
        · exact finv_next hst hone hksn hn hds (.at_ w) inv hj hjn ho (.of_kept hr.1) (hI _ _ inv.kept.inv hr.1) hkd (fun _ => hr.1) (fun σ h1 h2 h3 => (ho' σ h1 h2).2 h3)
    | al =>
      have hr := hobτ w inv.kept (avail τ e2)
      have ho' : ∀ σ : Nat → Ltr, (∀ k, k < n → listed.getD k false = true → Fc σ k w) → a = putSel ops (fun k => listed.getD k false) (C σ) a0 n → runUpon (fun u w' => Kept w w' ∧ (σ j = .at_ w → C σ j = u ∧ Fc σ j w')) ((execOp a.eval o).run P w) := fun σ h1 h2 => by
        obtain ⟨h4, h5⟩ := others σ h2
        rcases h4 with h4 | ⟨_, h4⟩
        · exact absurd h4.1 h5
        · rw [(looks σ h2).1]; exact h4 w inv.kept (avail σ h1)
      rw [← l1] at hr
      generalize (execOp a.eval o).run P w = r at *
      cases r with
      | halt x w' => exact hr.elim
      | ok nx w' =>
        cases nx <;> simp only [runUpon] at hr <;> simp only [Oper.upon]
        · exact finv_next hst hone hksn hn hds (.at_ w) inv hj hjn ho (.of_kept hr.1) (hI _ _ inv.kept.inv hr.1) hkd (fun _ => hr.1) (fun σ h1 h2 h3 => (ho' σ h1 h2).2 h3)
        · exact finv_next hst hone hksn hn hds (.at_ w) inv hj hjn ho (.of_kept hr.1) (hI _ _ inv.kept.inv hr.1) hkd (fun _ => hr.1) (fun σ h1 h2 h3 => (ho' σ h1 h2).2 h3)
    | cv c =>
      have hr := hobτ.2.2 w inv.kept (avail τ e2)
      rw [← l1] at hr
      generalize (execOp a.eval o).run P w = r at *
      cases r with
      | halt x w' => exact hr.elim
      | ok nx w' =>
        cases nx <;> simp only [callUpon] at hr <;> simp only [Oper.upon]
        obtain ⟨rfl, hc⟩ := hr
        refine hc.mono ?_
        rintro e w'' ⟨v, rfl, rfl, hk⟩
        refine finv_next hst hone hksn hn hds default inv hj hjn ho (.of_kept hk) (hI _ _ inv.kept.inv hk) hkd (fun _ => hk) (fun σ h1 h2 h3 => ?_)
        obtain ⟨h4, h5⟩ := others σ h2
        rcases h4 with h4 | ⟨_, h4⟩
        · exact absurd h4.1 h5
        · exact ⟨h4.1, h4.2.1 _⟩
    | cf mk F =>
      have hr := hobτ.2.2 w inv.kept (avail τ e2)
      rw [← l1] at hr
      generalize (execOp a.eval o).run P w = r at *
      cases r with
      | halt x w' => exact hr.elim
      | ok nx w' =>
        cases nx <;> simp only [callUpon] at hr <;> simp only [Oper.upon]
        obtain ⟨rfl, hc⟩ := hr
        refine hc.mono ?_
        rintro e w'' ⟨v, rfl, hk, x, rfl, hF⟩
        refine finv_next hst hone hksn hn hds x inv hj hjn ho (.of_kept hk) (hI _ _ inv.kept.inv hk) hkd (fun _ => hk) (fun σ h1 h2 h3 => ?_)
        obtain ⟨h4, h5⟩ := others σ h2
        rcases h4 with h4 | ⟨_, h4⟩
        · exact absurd h4.1 h5
        · obtain ⟨h6, h7, -⟩ := h4
          exact ⟨by rw [h6, h3], by rw [h7, h3]; exact hF⟩
    | st =>
      have hr := hobτ w inv.kept (avail τ e2)
      have ho' : ∀ σ : Nat → Ltr, (∀ k, k < n → listed.getD k false = true → Fc σ k w) → a = putSel ops (fun k => listed.getD k false) (C σ) a0 n → runUpon (fun u w' => (Keep S w w' ∧ I w') ∧ (σ j = .at_ w → C σ j = u ∧ Fc σ j w')) ((execOp a.eval o).run P w) := fun σ h1 h2 => by
        obtain ⟨h4, h5⟩ := others σ h2
        rcases h4 with h4 | ⟨_, h4⟩
        · exact absurd h4.1 h5
        · rw [(looks σ h2).1]; exact h4 w inv.kept (avail σ h1)
      rw [← l1] at hr
      generalize (execOp a.eval o).run P w = r at *
      cases r with
      | halt x w' => exact hr.elim
      | ok nx w' =>
        cases nx <;> simp only [runUpon] at hr <;> simp only [Oper.upon]
        · exact finv_next hst hone hksn hn hds (.at_ w) inv hj hjn ho hr.1.1 hr.1.2 hkd (fun h => by cases h) (fun σ h1 h2 h3 => (ho' σ h1 h2).2 h3)
        · exact finv_next hst hone hksn hn hds (.at_ w) inv hj hjn ho hr.1.1 hr.1.2 hkd (fun h => by cases h) (fun σ h1 h2 h3 => (ho' σ h1 h2).2 h3)
  · rw [if_neg hw]
    obtain ⟨kd, hkd, _⟩ := hob τ j o hjn ho
    refine finv_next hst hone hksn hn hds default inv hj hjn ho (Keep.refl _ _) inv.kept.inv hkd (fun _ => Keep.refl _ _) (fun σ h1 h2 h3 => ?_)
    obtain ⟨kd', hkd', h⟩ := hob σ j o hjn ho
    rcases h with ⟨_, h4, h5⟩ | ⟨h4, _⟩
    · exact ⟨h4, h5 w⟩
    · rw [← (looks σ h2).2] at h4
      exact absurd h4 hw

include hst hob hn hlk hds hone hksn in
theorem finv_late (hsel : Region.noSelect ops = true) {listed : Array Bool} {a : Act} {w : World} {j : Nat} {o : Oper} (inv : FInv S I ops w0 n a0 C Fc listed a w) (hj : j ∈ Region.ready .any ops listed) (hjn : j < n) (ho : ops[j]? = some o) (hp : ks[j]? = some .p) :
    ∃ v, Yields P ops o v a ∧ FInv S I ops w0 n a0 C Fc (listed.setIfInBounds j true) (a.put o.dst v) w := by
  obtain ⟨_, o', ho', hall⟩ := mem_ready.1 hj
  cases ho'.symm.trans ho
  have looks : ∀ σ : Nat → Ltr, a = putSel ops (fun k => listed.getD k false) (C σ) a0 n → (execOp a.eval o = execOp (putSel ops (fun _ => true) (C σ) a0 j).eval o ∧ Region.wanted o (yielded ops a.tmps) = Region.wanted o (yielded ops (putSel ops (fun _ => true) (C σ) a0 j).tmps)) := fun σ e => by
    have h1 := same_looks (ops := ops) (a0 := a0) (C := C) (σ := σ) hlk ho hjn hall
    rw [← e] at h1
    exact ⟨execOp_of_tmps o (Region.noSelect_spec hsel j o · · ho) h1, wanted_of_tmps o h1⟩
  have one : ∀ σ : Nat → Ltr, a = putSel ops (fun k => listed.getD k false) (C σ) a0 n → Yields P ops o (C σ j) a ∧ ∀ w, Fc σ j w := fun σ e => by
    obtain ⟨kd, hkd, h⟩ := hob σ j o hjn ho
    obtain rfl : kd = .p := Option.some.inj (hkd.symm.trans hp)
    obtain ⟨l1, l2⟩ := looks σ e
    rcases h with ⟨h1, h2, h3⟩ | ⟨h1, h2, h3⟩
    · exact ⟨.inr ⟨by rw [l2]; exact h1, h2⟩, h3⟩
    · exact ⟨.inl ⟨by rw [l2]; exact h1, fun w => by rw [l1]; exact h2 w⟩, h3⟩
  obtain ⟨τ, hτ⟩ := inv.at_
  obtain ⟨e1, _⟩ := hτ τ (fun _ _ _ => rfl)
  obtain ⟨y1, _⟩ := one τ e1
  refine ⟨C τ j, y1, finv_next hst hone hksn hn hds default inv hj hjn ho (Keep.refl _ _) inv.kept.inv hp (fun _ => Keep.refl _ _) (fun σ h1 h2 _ => ?_)⟩
  obtain ⟨y2, y3⟩ := one σ h2
  refine ⟨?_, y3 w⟩
  rcases y1 with ⟨a1, b1⟩ | ⟨a1, b1⟩ <;> rcases y2 with ⟨a2, b2⟩ | ⟨a2, b2⟩
  · have := (b1 w).symm.trans (b2 w)
    simp only [Result.ok.injEq, Next.value.injEq, and_true] at this
    exact this.symm
  · rw [a1] at a2; cases a2
  · rw [a1] at a2; cases a2
  · rw [b1, b2]

include hst hob hn hlk hds hI hone hksn in
theorem finv_all (hsel : Region.noSelect ops = true) (hde : depsOk ops n = true) {late : List Nat} (hsh : shutB ops n late = true) (hla : lateOk ops ks late = true) {Q : Exit → Act → World → Prop} (hQ : late ≠ [] → ∀ c a w, ∀ (d : Option Tmp) (v : Value), Q (.panic c) (a.put d v) w → Q (.panic c) a w)
    {g : Nat} (hfin : ∀ a w, FInv S I ops w0 n a0 C Fc (firstK ops n) a w → wpAny P .any ops Q g (firstK ops n) a w) :
    ∀ (f : Nat) (rem : List Nat) (listed : Array Bool) (a : Act) (w : World), FInv S I ops w0 n a0 C Fc listed a w → rem.Nodup → rem.length = f → (∀ i, i < n → (listed.getD i false = false ↔ i ∈ rem)) → (∀ i ∈ rem, i < n) → wpAny P .any ops Q (f + g) listed a w := by
  intro f
  induction f with
  | zero =>
    intro rem listed a w inv hnd hlen hrem hlt
    have hr : rem = [] := List.length_eq_zero_iff.1 hlen
    subst hr
    have e : listed = firstK ops n := by
      apply Array.ext
      · rw [inv.head.size]; simp [firstK]
      · intro i h1 h2
        have hi : i < ops.size := by rw [← inv.head.size]; exact h1
        have g1 : listed.getD i false = listed[i] := by simp [h1]
        have g2 := firstK_get ops n i false hi
        have g3 : (firstK ops n).getD i false = (firstK ops n)[i] := by simp [h2]
        rw [← g1, ← g3, g2]
        rcases Nat.lt_or_ge i n with hin | hin
        · have := hrem i hin
          simp only [List.not_mem_nil, iff_false, Bool.not_eq_false] at this
          rw [this, decide_eq_true hin]
        · have := getD_both (inv.head.tail i hin hi)
          rw [this, decide_eq_false (by omega)]
    subst e
    rw [Nat.zero_add]
    exact hfin a w inv
  | succ f ih =>
    intro rem listed a w inv hnd hlen hrem hlt
    have hsz := inv.head.size
    have next : ∀ j, j ∈ rem → ((rem.erase j).Nodup ∧ (rem.erase j).length = f ∧ (∀ i, i < n → ((listed.setIfInBounds j true).getD i false = false ↔ i ∈ rem.erase j)) ∧ ∀ i ∈ rem.erase j, i < n) := fun j hj => by
      refine ⟨hnd.erase j, by rw [List.length_erase_of_mem hj, hlen]; rfl, fun i hi => ?_, fun i hi => hlt i (List.mem_of_mem_erase hi)⟩
      rw [get_set _ _ _ (by have := hlt j hj; omega), hnd.mem_erase_iff, Bool.or_eq_false_iff, hrem i hi, beq_eq_false_iff_ne]
      exact And.comm
    have hne : rem ≠ [] := fun e => by rw [e] at hlen; simp at hlen
    obtain ⟨i0, hi0⟩ := List.exists_mem_of_ne_nil rem hne
    obtain ⟨i, hin, hio, hbe⟩ := least_open (fun i => listed.getD i false) n ⟨i0, hlt i0 hi0, (hrem i0 (hlt i0 hi0)).2 hi0⟩
    have hir : i ∈ Region.ready .any ops listed := by
      have hio' : i < ops.size := by omega
      refine mem_ready.2 ⟨getD_in (by omega) hio, ops[i], by simp [hio'], fun e he hb => ?_⟩
      have h1 := List.all_eq_true.1 hde i (List.mem_range.2 hin)
      have h0 : ops[i]? = some ops[i] := by simp [hio']
      simp only [h0] at h1
      have h2 := (Array.all_eq_true_iff_forall_mem.1 h1) e he
      simp only [hb, Bool.not_true, Bool.false_or, decide_eq_true_eq] at h2
      exact hbe e.on h2
    rw [show f + 1 + g = (f + g) + 1 by omega]
    by_cases hA : ∃ k, k < n ∧ late.contains k = false ∧ listed.getD k false = false
    · obtain ⟨k, hk, hkl, hko⟩ := hA
      refine ⟨fun h => by rw [h] at hir; (exact absurd hir (by simp)), fun j hj => ?_⟩
      have hjn : j < n := by
        rcases Nat.lt_or_ge j n with h | h
        · exact h
        · exact absurd hj (shut_of hsh inv.head h _ k rfl hk hkl (getD_in (by omega) hko))
      refine wpOp_mono (fun a' w' h => ?_) (finv_step hst hI hone hksn hob hn hlk hds hsel inv hj hjn)
      obtain ⟨n1, n2, n3, n4⟩ := next j ((hrem j hjn).1 (getD_both (mem_ready.1 hj).1))
      exact ih (rem.erase j) _ a' w' h n1 n2 n3 n4
    · have hil : late.contains i = true := by
        cases hc : late.contains i with
        | true => rfl
        | false => exact absurd ⟨i, hin, hc, hio⟩ hA
      have hl := List.all_eq_true.1 hla i (by simpa using hil)
      simp only [Bool.and_eq_true] at hl
      have hio' : i < ops.size := by omega
      have h0 : ops[i]? = some ops[i] := by simp [hio']
      have hp : ks[i]? = some .p := by
        cases hk : ks[i]? with
        | none => rw [hk] at hl; simp at hl
        | some kd => rw [hk] at hl; cases kd <;> simp [Kd.isP] at hl ⊢
      obtain ⟨v, hy, hinv⟩ := finv_late hst hone hksn hob hn hlk hds hsel inv hir hin h0 hp
      obtain ⟨n1, n2, n3, n4⟩ := next i ((hrem i hin).1 hio)
      refine wpAny_first h0 (Region.noSelect_spec hsel) (fun c a w => hQ (fun e => by rw [e] at hil; simp at hil) c a w _ v) (f + g) listed a w ?_ hir hy (ih (rem.erase i) _ _ w hinv n1 n2 n3 n4)
      intro j oj hj hji hju hno
      refine Region.free_spec h0 hl.2 j oj hj hji ?_ hno
      have hjs : j < ops.size := (Array.getElem?_eq_some_iff.1 hj).1
      rw [firstK_get ops i j true hjs, decide_eq_false_iff_not]
      intro hlt'
      have := hbe j hlt'
      rw [getD_both hju] at this
      cases this
end

theorem putL_sel (c : Nat → Value) (a : Act) : ∀ (i : Nat) (l : List Oper) (cs : List Value), i ≤ l.length → cs.length = l.length → (∀ j, j < i → ops[j]? = l[j]?) → (∀ j, j < i → cs[j]? = some (c j)) →
    putL (l.take i) (cs.take i) a = putSel ops (fun _ => true) c a i := by
  have snoc : ∀ (l : List Oper) (cs : List Value) (o : Oper) (v : Value) (a : Act), l.length = cs.length → putL (l ++ [o]) (cs ++ [v]) a = (putL l cs a).put o.dst v := by
    intro l
    induction l with
    | nil => intro cs o v a h; cases cs with
      | nil => rfl
      | cons _ _ => simp at h
    | cons x l ih => intro cs o v a h; cases cs with
      | nil => simp at h
      | cons y cs => exact ih cs o v _ (by simpa using h)
  intro i
  induction i with
  | zero => intro l cs _ _ _ _; simp [putL, putSel]
  | succ i ih =>
    intro l cs hi hlen ho hc
    have h1 : l.take (i + 1) = l.take i ++ [l[i]'(by omega)] := by rw [List.take_succ_eq_append_getElem]
    have h2 : cs.take (i + 1) = cs.take i ++ [cs[i]'(by omega)] := by rw [List.take_succ_eq_append_getElem]
    rw [h1, h2, snoc _ _ _ _ _ (by simp [hlen]), ih l cs (by omega) hlen (fun j hj => ho j (by omega)) (fun j hj => hc j (by omega)), putSel_succ, if_pos rfl]
    have e1 : dstAt ops i = (l[i]'(by omega)).dst := by
      unfold dstAt
      rw [ho i (by omega), List.getElem?_eq_getElem (by omega)]
      rfl
    have e2 : cs[i]'(by omega) = c i := by
      have := hc i (by omega)
      rw [List.getElem?_eq_getElem (by omega)] at this
      exact Option.some.inj this
    rw [e1, e2]

theorem wp_region_fx {id : Nat} {Q : Exit → Act → World → Prop} {a : Act} {w : World} {l : List Oper} (n : Nat) (ks : List Kd) (late : List Nat) (S : Nat → Prop) (I : World → Prop) (hI : ∀ w w', I w → Kept w w' → I w') (hI0 : I w) (hm : P.follows .mixedOrders = true) (hB : fxB l.toArray ks n late = true)
    (hQ : late ≠ [] → ∀ c a w, ∀ (d : Option Tmp) (v : Value), Q (.panic c) (a.put d v) w → Q (.panic c) a w)
    (h : QV (wpFx P l.toArray S I w (fun a' Γ => ∀ w', Cls S I w w' → (∀ p ∈ Γ, p.2 w') → wpList P l.toArray Q (l.drop n) a' w') ks 0 (l.take n) a [])) : (Code.region id l.toArray true).wp P Q a w := by
  simp only [fxB, Bool.and_eq_true, decide_eq_true_eq, beq_iff_eq] at hB
  obtain ⟨⟨⟨⟨⟨⟨⟨⟨⟨hsel, hn⟩, hks⟩, hlk⟩, hds⟩, hde⟩, hsh⟩, hla⟩, hone⟩, hseq⟩ := hB
  have hn' : n ≤ l.length := by simpa using hn
  have H := fun σ => fx_obs σ ks 0 (l.take n) a [] h.out
  obtain ⟨cs, H⟩ := Classical.skolem.1 H
  obtain ⟨fs, H⟩ := Classical.skolem.1 H
  obtain ⟨Γf, HS⟩ := Classical.skolem.1 H
  have hcs : ∀ σ, (cs σ).length = n := fun σ => by have := (HS σ).1; rw [List.length_take] at this; omega
  have hfs : ∀ σ, (fs σ).length = n := fun σ => by have := (HS σ).2.1; rw [List.length_take] at this; omega
  let C := fun (σ : Nat → Ltr) (k : Nat) => (cs σ).getD k undef
  let Fc := fun (σ : Nat → Ltr) (k : Nat) => (fs σ).getD k (fun _ => True)
  have hcg : ∀ σ k, k < n → (cs σ)[k]? = some (C σ k) := fun σ k hk => by
    show _ = some ((cs σ).getD k undef)
    rw [List.getD_eq_getElem?_getD, List.getElem?_eq_getElem (by rw [hcs]; exact hk)]; rfl
  have hfg : ∀ σ k, k < n → (fs σ)[k]? = some (Fc σ k) := fun σ k hk => by
    show _ = some ((fs σ).getD k _)
    rw [List.getD_eq_getElem?_getD, List.getElem?_eq_getElem (by rw [hfs]; exact hk)]; rfl
  have hput : ∀ σ k, k ≤ n → putL ((l.take n).take k) ((cs σ).take k) a = putSel l.toArray (fun _ => true) (C σ) a k := fun σ k hk =>
    putL_sel (ops := l.toArray) (C σ) a k (l.take n) (cs σ) (by rw [List.length_take]; omega) (by rw [hcs, List.length_take]; omega) (fun j hj => by simp [show j < n by omega]) (fun j hj => hcg σ j (by omega))
  have hst : ∀ σ k kd, ks[k]? = some kd → Stay1 S kd (Fc σ k) := fun σ k kd hkd =>
    (HS σ).2.2.1 k (Fc σ k) kd (hfg σ k (by have := (List.getElem?_eq_some_iff.1 hkd).1; omega)) hkd
  have hob : ∀ σ k o, k < n → l.toArray[k]? = some o → ∃ kd, ks[k]? = some kd ∧ Ob P S I l.toArray w σ kd k o (putSel l.toArray (fun _ => true) (C σ) a k) (fun w => ∀ j, j < k → Region.waitsFor .any l.toArray k j = true → Fc σ j w) (C σ k) (Fc σ k) := fun σ k o hk ho => by
    obtain ⟨kd, h1, h2⟩ := (HS σ).2.2.2.2.2 k o (C σ k) (Fc σ k) (by rw [List.getElem?_take, if_pos hk]; simpa using ho) (hcg σ k hk) (hfg σ k hk)
    refine ⟨kd, h1, ?_⟩
    rw [Nat.zero_add, hput σ k (by omega)] at h2
    have hav : ∀ w1, (∀ j, j < k → Region.waitsFor .any l.toArray k j = true → Fc σ j w1) → (Avail l.toArray k [] w1 ∧ ∀ j f, j < k → (fs σ)[j]? = some f → Region.waitsFor .any l.toArray k (0 + j) = true → f w1) := fun w1 h3 =>
      ⟨fun p hp => (by cases hp), fun j f hj hf hw => by
        rw [hfg σ j (by omega)] at hf
        obtain rfl := Option.some.inj hf
        exact h3 j hj (by rwa [Nat.zero_add] at hw)⟩
    rcases h2 with h2 | ⟨h2, h3⟩
    · exact .inl h2
    · refine .inr ⟨h2, ?_⟩
      cases kd with
      | p => exact h3
      | kv => exact fun w1 hk1 ha => h3 w1 hk1 (hav w1 ha)
      | al => exact fun w1 hk1 ha => h3 w1 hk1 (hav w1 ha)
      | cv c => exact ⟨h3.1, h3.2.1, fun w1 hk1 ha => h3.2.2 w1 hk1 (hav w1 ha)⟩
      | cf mk F => exact ⟨h3.1, h3.2.1, fun w1 hk1 ha => h3.2.2 w1 hk1 (hav w1 ha)⟩
      | st => exact fun w1 hk1 ha => h3 w1 hk1 (hav w1 ha)
  refine wp_region_any hm ?_
  have hg : ∀ i, (Array.replicate l.toArray.size false).getD i false = false := getD_replicate_false _
  have inv0 : FInv S I l.toArray w n a C Fc (Array.replicate l.toArray.size false) a { w with drawn := w.drawn + 1 } := by
    refine ⟨⟨by simp, fun j oj _ hl => (by rw [hg] at hl; cases hl), fun t _ ht => getD_in (by simpa using ht) (hg _)⟩, ⟨(Keep.refl _ w).drew, hI w _ hI0 ((Keep.refl _ w).drew)⟩, fun _ => default, fun σ _ => ⟨?_, fun k _ hl => by rw [hg] at hl; cases hl⟩⟩
    have : ∀ m, putSel l.toArray (fun k => (Array.replicate l.toArray.size false).getD k false) (C σ) a m = a := fun m => by
      induction m with
      | zero => rfl
      | succ m ih => rw [putSel_succ, hg, ih]; rfl
    exact (this n).symm
  have := finv_all (P := P) (Q := Q) (late := late) (g := l.toArray.size - n) hst hI hone hks hob hn hlk hds hsel hde hsh hla hQ (fun a' w' inv => by
    obtain ⟨τ, hτ⟩ := inv.at_
    obtain ⟨e1, e2⟩ := hτ τ (fun _ _ _ => rfl)
    have e3 : a' = putL (l.take n) (cs τ) a := by
      have h1 := hput τ n (Nat.le_refl _)
      rw [List.take_take, Nat.min_self, List.take_of_length_le (l := cs τ) (by rw [hcs]; exact Nat.le_refl _)] at h1
      rw [h1, e1]
      have h2 : ∀ m, m ≤ n → putSel l.toArray (fun k => (firstK l.toArray n).getD k false) (C τ) a m = putSel l.toArray (fun _ => true) (C τ) a m := fun m => by
        induction m with
        | zero => intro _; rfl
        | succ m ih =>
          intro hm'
          rw [putSel_succ, putSel_succ, ih (by omega), firstK_get _ _ _ _ (by omega), decide_eq_true (by omega)]
      exact h2 n (Nat.le_refl _)
    have hdl : (l.drop n).length = l.toArray.size - n := by simp
    have h5 := (HS τ).2.2.2.1 w' inv.kept (fun p hp => (HS τ).2.2.2.2.1 w' (fun p hp => by cases hp) (fun f hf => by
      obtain ⟨k, hk⟩ := List.getElem?_of_mem hf
      have hkn : k < n := by
        have := (List.getElem?_eq_some_iff.1 hk).1
        rw [hfs τ] at this
        exact this
      have h6 := hfg τ k hkn
      rw [hk] at h6
      obtain rfl := Option.some.inj h6
      exact e2 k hkn (by rw [firstK_get _ _ _ _ (by omega), decide_eq_true hkn])) p hp)
    rw [← e3] at h5
    have := wpAny_of_seq (md := .any) (Q' := Q) (l.drop n) n (firstK l.toArray n) a' w' (fun j => by simp [List.getElem?_drop]) (by rw [hdl]; exact hseq) h5
    rwa [hdl] at this) n (List.range n) (Array.replicate l.toArray.size false) a _ inv0 List.nodup_range (List.length_range) (fun i hi => by rw [hg]; simp [hi]) (fun i hi => List.mem_range.1 hi)
  rw [show n + (l.toArray.size - n) = l.toArray.size by omega] at this
  exact this

/-- the end of a region that does not end otherwise -/
def tailQ (Q : Exit → Act → World → Prop) : Exit → Act → World → Prop
  | .normal, a, w => Q .normal a w
  | _, _, _ => False
theorem tailQ_n {Q : Exit → Act → World → Prop} {a : Act} {w : World} (h : Q .normal a w) : tailQ Q .normal a w := h
/-- the same, where some operations of the head may come up behind the tail's first -/
theorem wp_region_fxl {id : Nat} {Q : Exit → Act → World → Prop} {a : Act} {w : World} {l : List Oper} (n : Nat) (ks : List Kd) (late : List Nat) (S : Nat → Prop) (I : World → Prop) (hI : ∀ w w', I w → Kept w w' → I w') (hI0 : I w) (hm : P.follows .mixedOrders = true) (hB : fxB l.toArray ks n late = true)
    (h : QV (wpFx P l.toArray S I w (fun a' Γ => ∀ w', Cls S I w w' → (∀ p ∈ Γ, p.2 w') → wpList P l.toArray (tailQ Q) (l.drop n) a' w') ks 0 (l.take n) a [])) : (Code.region id l.toArray true).wp P Q a w :=
  Code.wp_mono (fun e a w h => by cases e <;> first | exact h | exact h.elim) (wp_region_fx n ks late S I hI hI0 hm hB (fun _ _ _ _ _ _ h => h) h)

/-! ### the walk, step by step -/
section
variable {S : Nat → Prop} {I : World → Prop} {w0 : World} {Q : Act → Ctx → Prop} {ks : List Kd} {k : Nat} {l : List Oper} {o : Oper} {a : Act} {Γ : Ctx}
theorem fx_nil (h : Q a Γ) : QV (wpFx P ops S I w0 Q ks k [] a Γ) := ⟨by cases ks <;> exact h⟩
theorem fx_skip {kd : Kd} (hw : Region.wanted o (yielded ops a.tmps) = false) (h : ∀ K : Act → Prop, (∀ a, QV (wpFx P ops S I w0 Q ks (k + 1) l a Γ) → K a) → K (a.put o.dst undef)) : QV (wpFx P ops S I w0 Q (kd :: ks) k (o :: l) a Γ) :=
  ⟨by unfold wpFx; rw [if_neg (by rw [hw]; simp)]; exact (h _ (fun _ h => h)).out⟩
theorem fx_p (v : Value) (hw : Region.wanted o (yielded ops a.tmps) = true) (hr : ∀ w, (execOp a.eval o).run P w = .ok (.value v) w) (h : ∀ K : Act → Prop, (∀ a, QV (wpFx P ops S I w0 Q ks (k + 1) l a Γ) → K a) → K (a.put o.dst v)) : QV (wpFx P ops S I w0 Q (.p :: ks) k (o :: l) a Γ) :=
  ⟨by unfold wpFx; rw [if_pos hw]; exact ⟨v, hr, (h _ (fun _ h => h)).out⟩⟩
theorem fx_kv (v : Value) (hw : Region.wanted o (yielded ops a.tmps) = true) (hr : ∀ w, Cls S I w0 w → Avail ops k Γ w → (execOp a.eval o).run P w = .ok (.value v) w) (h : ∀ K : Act → Prop, (∀ a, QV (wpFx P ops S I w0 Q ks (k + 1) l a Γ) → K a) → K (a.put o.dst v)) : QV (wpFx P ops S I w0 Q (.kv :: ks) k (o :: l) a Γ) :=
  ⟨by unfold wpFx; rw [if_pos hw]; exact ⟨v, fun w hk ha => by rw [hr w hk ha]; exact ⟨rfl, Keep.refl _ _⟩, (h _ (fun _ h => h)).out⟩⟩
theorem fx_al (mk : Ltr → Value) (F : Ltr → World → Prop) (x : World → World) (hw : Region.wanted o (yielded ops a.tmps) = true) (hF : Stays S F) (hr : ∀ w, Cls S I w0 w → Avail ops k Γ w → (execOp a.eval o).run P w = .ok (.value (mk (.at_ w))) (x w)) (hx : ∀ w, Cls S I w0 w → Kept w (x w) ∧ F (.at_ w) (x w))
    (h : ∀ K : Act → Ctx → Prop, (∀ a Γ, QV (wpFx P ops S I w0 Q ks (k + 1) l a Γ) → K a Γ) → ∀ x, K (a.put o.dst (mk x)) ((k, F x) :: Γ)) : QV (wpFx P ops S I w0 Q (.al :: ks) k (o :: l) a Γ) :=
  ⟨by unfold wpFx; rw [if_pos hw]; exact ⟨mk, F, hF, fun w hk ha => by rw [hr w hk ha]; exact ⟨(hx w hk).1, rfl, (hx w hk).2⟩, fun v => (h (fun a Γ => QV (wpFx P ops S I w0 Q ks (k + 1) l a Γ)) (fun _ _ h => h) v).out⟩⟩
/-- a new block b holds the cells C -/
def NewAt (w0 : World) (C : List Value) (b : Nat) (w : World) : Prop := w0.heap.size ≤ b ∧ w.rangeAt b 0 C ∧ w.there b 0 C.length
theorem newAt_stays (w0 : World) (hS : ∀ b, S b → b < w0.heap.size) (C : List Value) : Stays S fun x w => NewAt w0 C x.n w := fun x _ _ ⟨h1, h2, h3⟩ hk =>
  have hn : ¬ S x.n := fun h => absurd (hS _ h) (by omega)
  ⟨h1, hk.range h2 hn, hk.there h3 hn⟩
theorem newAt_new {w0 w : World} (C : Array Value) (T : TypeId) (hk : Keep S w0 w) : NewAt w0 C.toList (Ltr.at_ w).n (w.alloc (.cells C T)) :=
  ⟨hk.size, range_alloc_new w C T _ (fun j v hj => by simpa using hj), there_alloc_new w C T _ (by simp)⟩
/-- a new block, told by its number -/
theorem fx_new (hS : ∀ b, S b → b < w0.heap.size) (mk : Nat → Value) (C : Array Value) (T : TypeId) (hw : Region.wanted o (yielded ops a.tmps) = true) (hr : ∀ w, Cls S I w0 w → Avail ops k Γ w → (execOp a.eval o).run P w = .ok (.value (mk w.heap.size)) (w.alloc (.cells C T)))
    (h : ∀ K : Act → Ctx → Prop, (∀ a Γ, QV (wpFx P ops S I w0 Q ks (k + 1) l a Γ) → K a Γ) → ∀ b, K (a.put o.dst (mk b)) ((k, NewAt w0 C.toList b) :: Γ)) : QV (wpFx P ops S I w0 Q (.al :: ks) k (o :: l) a Γ) :=
  fx_al (fun x => mk x.n) (fun x w => NewAt w0 C.toList x.n w) (fun w => w.alloc (.cells C T)) hw (newAt_stays w0 hS _) hr (fun _ hk => ⟨(Keep.refl _ _).alloc _, newAt_new C T hk.keep⟩) (fun K hK x => h K hK x.n)
theorem fx_st (x : World → World) (F : World → Prop) (hw : Region.wanted o (yielded ops a.tmps) = true) (hF : ∀ w w', F w → Kept w w' → F w') (hr : ∀ w, Cls S I w0 w → Avail ops k Γ w → (execOp a.eval o).run P w = .ok .skip (x w)) (hx : ∀ w, Cls S I w0 w → Keep S w (x w) ∧ I (x w) ∧ F (x w))
    (h : ∀ K : Act → Ctx → Prop, (∀ a Γ, QV (wpFx P ops S I w0 Q ks (k + 1) l a Γ) → K a Γ) → K (a.put o.dst undef) ((k, F) :: Γ)) : QV (wpFx P ops S I w0 Q (.st :: ks) k (o :: l) a Γ) :=
  ⟨by unfold wpFx; rw [if_pos hw]; exact ⟨F, hF, fun w hk ha => by rw [hr w hk ha]; exact ⟨rfl, hx w hk⟩, (h (fun a Γ => QV (wpFx P ops S I w0 Q ks (k + 1) l a Γ)) (fun _ _ h => h)).out⟩⟩
/-- a Value stored into cells of one's own: one operation of the head -/
theorem there_set {w : World} {b o n : Nat} (h : w.there b o n) (p : Addr) (v : Value) : (w.setCell p v).there b o n := fun j hj => by
  obtain ⟨h1, h2⟩ := h j hj
  refine ⟨?_, by rw [World.frozen?_setCell]; exact h2⟩
  obtain ⟨u, hu⟩ := Option.isSome_iff_exists.1 h1
  by_cases e : p = ⟨b, o + j, none⟩
  · subst e
    rw [World.cell?_setCell_same _ _ _ hu]
    rfl
  · rw [World.cell?_setCell_other _ _ _ _ e, hu]
    rfl
def put8W (b : Nat) (a0 a1 a2 a3 a4 a5 a6 a7 : Value) (w : World) : World := (((((((w.setCell ⟨b, 0, none⟩ a0).setCell ⟨b, 1, none⟩ a1).setCell ⟨b, 2, none⟩ a2).setCell ⟨b, 3, none⟩ a3).setCell ⟨b, 4, none⟩ a4).setCell ⟨b, 5, none⟩ a5).setCell ⟨b, 6, none⟩ a6).setCell ⟨b, 7, none⟩ a7
theorem fx_st8 (b : Nat) (r : Raw) (a0 a1 a2 a3 a4 a5 a6 a7 : Value) (he : [a0, a1, a2, a3, a4, a5, a6, a7] = ER.cells r) (hI : I = fun w => w.there b 0 8) (hSb : S b) (hw : Region.wanted o (yielded ops a.tmps) = true)
    (hr : ∀ w, Cls S I w0 w → w.there b 0 8 → Avail ops k Γ w → (execOp a.eval o).run P w = .ok .skip (put8W b a0 a1 a2 a3 a4 a5 a6 a7 w))
    (h : ∀ K : Act → Ctx → Prop, (∀ a Γ, QV (wpFx P ops S I w0 Q ks (k + 1) l a Γ) → K a Γ) → K (a.put o.dst undef) ((k, fun w => w.rangeAt b 0 (ER.cells r)) :: Γ)) : QV (wpFx P ops S I w0 Q (.st :: ks) k (o :: l) a Γ) := by
  subst hI
  refine fx_st (put8W b a0 a1 a2 a3 a4 a5 a6 a7) (fun w => w.rangeAt b 0 (ER.cells r)) hw (fun w w' h1 h2 => h2.range h1 (fun h => h)) (fun w hk ha => hr w hk hk.inv ha) (fun w hk => ?_) h
  obtain ⟨w2, e2, h2, h3⟩ := put8 hk.inv r a0 a1 a2 a3 a4 a5 a6 a7 he
  have e : put8W b a0 a1 a2 a3 a4 a5 a6 a7 w = w2 := e2.out
  rw [e]
  refine ⟨h3.mono (fun k _ e => by subst e; exact hSb), ?_, h2⟩
  rw [← e]
  exact there_set (there_set (there_set (there_set (there_set (there_set (there_set (there_set hk.inv _ _) _ _) _ _) _ _) _ _) _ _) _ _) _ _
theorem fx_cv {c : Value} {f : FuncId} {args : Array Value} (hw : Region.wanted o (yielded ops a.tmps) = true) (hr : ∀ w, (execOp a.eval o).run P w = .ok (.enter f args) w) (hc : ∀ w, Cls S I w0 w → Avail ops k Γ w → Calls P f args w fun e w' => e = .returned c ∧ Kept w w')
    (h : ∀ K : Act → Prop, (∀ a, QV (wpFx P ops S I w0 Q ks (k + 1) l a Γ) → K a) → K (a.put o.dst c)) : QV (wpFx P ops S I w0 Q (.cv c :: ks) k (o :: l) a Γ) :=
  ⟨by unfold wpFx; rw [if_pos hw]; exact ⟨fun w hk ha => by rw [hr w]; exact ⟨rfl, (hc w hk ha).mono fun e w' ⟨h1, h2⟩ => ⟨c, h1, rfl, h2⟩⟩, (h _ (fun _ h => h)).out⟩⟩
theorem fx_cf {mk : Ltr → Value} {F : Ltr → World → Prop} {f : FuncId} {args : Array Value} (hw : Region.wanted o (yielded ops a.tmps) = true) (hF : Stays S F) (hr : ∀ w, (execOp a.eval o).run P w = .ok (.enter f args) w) (hc : ∀ w, Cls S I w0 w → Avail ops k Γ w → Calls P f args w fun e w' => ∃ x, e = .returned (mk x) ∧ Kept w w' ∧ F x w')
    (h : ∀ K : Act → Ctx → Prop, (∀ a Γ, QV (wpFx P ops S I w0 Q ks (k + 1) l a Γ) → K a Γ) → ∀ x, K (a.put o.dst (mk x)) ((k, F x) :: Γ)) : QV (wpFx P ops S I w0 Q (.cf mk F :: ks) k (o :: l) a Γ) :=
  ⟨by unfold wpFx; rw [if_pos hw]; exact ⟨hF, fun w hk ha => by rw [hr w]; exact ⟨rfl, (hc w hk ha).mono fun e w' ⟨x, h1, h2, h3⟩ => ⟨mk x, h1, h2, x, rfl, h3⟩⟩, fun v => (h (fun a Γ => QV (wpFx P ops S I w0 Q ks (k + 1) l a Γ)) (fun _ _ h => h) v).out⟩⟩
end
end
end Go.Proofs.YticnefkdkkjgcaaGreatDoor

/- packread.Next and Read, wherever and of whatever length. -/
namespace Go.Proofs.YticnefkdkkjgcaaGreatDoor
open Go.RowKit

/-- what Read reads, whatever the length -/
def readT (s : ByteArray) : R V := if 1048576 < s.size then .bad 5 1048576 else readN Wd s
end Go.Proofs.YticnefkdkkjgcaaGreatDoor

/- Reading whole documents. Plain Lean. -/
namespace Go.Proofs.YticnefkdkkjgcaaGreatDoor

theorem readN_of {D : Words} {s : ByteArray} {v : V} (h : itemN D s 128 0 = .ok v s.size) : readN D s = .ok v s.size := by
  unfold readN
  rw [h]
  simp only [R.bind]
  rw [if_neg (by omega)]
theorem wide_size (f n x : Nat) : (Bt (f :: beL n x)).size = n + 1 := by rw [Bt_size, List.length_cons, beL_len]
theorem readT_of {s : ByteArray} {x : R V} (h : readN Wd s = x) (hs : s.size ≤ 1048576) : readT s = x := by unfold readT; rw [if_neg (by omega), h]
end Go.Proofs.YticnefkdkkjgcaaGreatDoor

/- A pattern's parts put together again: exact64, partsN. Plain Lean. -/
namespace Go.Proofs.YticnefkdkkjgcaaGreatDoor

theorem bitLen_two (x : Nat) (h : x < 2 ^ 64) : Lib.bitLen x = bitsN x := bitLen_bits 64 x h h
/-- a number below 2^64, nought aside, is 2^ctz times an odd one -/
theorem ctz_spec {x : Nat} (h0 : 0 < x) (h : x < 2 ^ 64) : ∃ m, x = 2 ^ Lib.ctz 64 x * (2 * m + 1) ∧ Lib.ctz 64 x < 64 := by
  have e : Lib.ctz 64 x = Lib.ctzFrom 64 x := by unfold Lib.ctz; rw [if_neg (by omega)]
  rw [e]
  exact Lib.ctzFrom_spec 64 x h0 h
theorem odd_pow {a b m n : Nat} (h : 2 ^ a * (2 * m + 1) = 2 ^ b * (2 * n + 1)) : a = b ∧ m = n := by
  rcases Nat.lt_trichotomy a b with hl | rfl | hl
  · exfalso
    obtain ⟨d, rfl⟩ : ∃ d, b = a + (d + 1) := ⟨b - a - 1, by omega⟩
    rw [Nat.pow_add, Nat.mul_assoc] at h
    have h1 := Nat.eq_of_mul_eq_mul_left (Nat.pow_pos (by decide)) h
    rw [Nat.pow_succ, Nat.mul_assoc, Nat.mul_left_comm] at h1
    omega
  · have h1 := Nat.eq_of_mul_eq_mul_left (Nat.pow_pos (by decide)) h
    exact ⟨rfl, by omega⟩
  · exfalso
    obtain ⟨d, rfl⟩ : ∃ d, a = b + (d + 1) := ⟨a - b - 1, by omega⟩
    rw [Nat.pow_add, Nat.mul_assoc] at h
    have h1 := Nat.eq_of_mul_eq_mul_left (Nat.pow_pos (by decide)) h
    rw [Nat.pow_succ, Nat.mul_assoc, Nat.mul_left_comm] at h1
    omega
theorem ctz_mul {m k : Nat} (h : (2 * m + 1) * 2 ^ k < 2 ^ 64) : Lib.ctz 64 ((2 * m + 1) * 2 ^ k) = k := by
  have hp : 0 < 2 ^ k := Nat.pow_pos (by decide)
  obtain ⟨n, h1, _⟩ := ctz_spec (x := (2 * m + 1) * 2 ^ k) (Nat.mul_pos (by omega) hp) h
  have h2 : 2 ^ Lib.ctz 64 ((2 * m + 1) * 2 ^ k) * (2 * n + 1) = 2 ^ k * (2 * m + 1) := by rw [← h1, Nat.mul_comm]
  exact (odd_pow h2).1
theorem pow_bits {m : Nat} (hm : 0 < m) : 2 ^ (bitsN m - 1) ≤ m ∧ m < 2 ^ bitsN m := ⟨bitsN_ge (by omega), bitsN_lt m⟩
set_option maxRecDepth 100000 in
/-- what exact64 makes of an odd m and an e in range: the pattern whose parts they are -/
theorem parts_exact (neg : Bool) (j : Nat) (e : Int) (hm : 2 * j + 1 < 9007199254740992) (he1 : -1074 ≤ e) (he2 : (bitsN (2 * j + 1) : Int) + e ≤ 1024) :
    partsN 52 (-1074) 11 (exact64 neg (2 * j + 1) e) = some (neg, 2 * j + 1, e) ∧ exact64 neg (2 * j + 1) e < 18446744073709551616 := by
  obtain ⟨m, hmj⟩ : ∃ m, m = 2 * j + 1 := ⟨_, rfl⟩
  have hm0 : 0 < m := by omega
  obtain ⟨hb1, hb2⟩ := pow_bits hm0
  have hbn : bitsN m ≤ 53 := bitsN_le (by rw [hmj]; exact hm)
  have hb0 : 1 ≤ bitsN m := by
    rcases Nat.eq_zero_or_pos (bitsN m) with h | h
    · rw [h] at hb2; omega
    · exact h
  rw [← hmj] at he2 ⊢
  obtain ⟨last, hlast⟩ : ∃ last : Int, last = max ((bitsN m : Int) - 53 + e) (-1074) := ⟨_, rfl⟩
  obtain ⟨k, hk⟩ : ∃ k : Nat, (k : Int) = e - last := ⟨(e - last).toNat, by omega⟩
  obtain ⟨kept, hkept⟩ : ∃ kept, kept = m * 2 ^ k := ⟨_, rfl⟩
  have hkb : bitsN m + k ≤ 53 := by omega
  have hk53 : kept < 9007199254740992 := by
    have h1 : kept < 2 ^ bitsN m * 2 ^ k := by rw [hkept]; exact Nat.mul_lt_mul_of_pos_right hb2 (Nat.pow_pos (by decide))
    rw [← Nat.pow_add] at h1
    exact Nat.lt_of_lt_of_le h1 (Nat.pow_le_pow_right (n := 2) (by decide) hkb)
  have hkp : 0 < kept := by rw [hkept]; exact Nat.mul_pos hm0 (Nat.pow_pos (by decide))
  have hctz : Lib.ctz 64 kept = k := by
    rw [hkept, hmj]
    refine ctz_mul ?_
    rw [← hmj, ← hkept]
    omega
  have hdiv : kept / 2 ^ k = m := by rw [hkept]; exact Nat.mul_div_cancel _ (Nat.pow_pos (by decide))
  have hlt : ¬ 2046 ≤ last + 1074 := by omega
  have hex : exact64 neg m e = if kept / 4503599627370496 = 0 then signed64N neg kept else signed64N neg ((last + 1074).toNat * 4503599627370496 + kept) := by
    unfold exact64
    rw [if_neg (by omega), bitLen_two m (by rw [hmj]; omega)]
    simp only
    rw [← hlast, if_neg hlt, show (e - last).toNat = k by omega, ← hkept]
  by_cases hsub : kept / 4503599627370496 = 0
  · -- below the least normal one
    rw [if_pos hsub] at hex
    have hk52 : kept < 4503599627370496 := by omega
    have hl : last = -1074 := by
      rcases Int.lt_or_le (-1074) ((bitsN m : Int) - 53 + e) with h | h
      · exfalso
        have h1 : (bitsN m : Int) + (k : Int) = 53 := by omega
        have h2 : bitsN m + k = 53 := by omega
        have h3 : 2 ^ (bitsN m - 1) * 2 ^ k ≤ kept := by rw [hkept]; exact Nat.mul_le_mul_right _ hb1
        rw [← Nat.pow_add, show bitsN m - 1 + k = 52 by omega] at h3
        omega
      · omega
    rw [hex]
    unfold signed64N partsN
    cases neg with
    | false =>
      simp only [Bool.false_eq_true, if_false]
      rw [show kept % 2 ^ (52 + 11) = kept by omega, if_neg (by omega), if_neg (by omega)]
      simp only [show (2 : Nat) ^ 52 = 4503599627370496 from rfl, hsub, Nat.lt_irrefl, if_false]
      rw [hctz, hdiv]
      refine ⟨?_, by omega⟩
      rw [show (-1074 : Int) + (k : Int) = e by omega]
      simp
      omega
    | true =>
      simp only [if_true]
      rw [show (kept + 9223372036854775808) % 2 ^ (52 + 11) = kept by omega, if_neg (by omega), if_neg (by omega)]
      simp only [show (2 : Nat) ^ 52 = 4503599627370496 from rfl, hsub, Nat.lt_irrefl, if_false]
      rw [hctz, hdiv]
      refine ⟨?_, by omega⟩
      rw [show (-1074 : Int) + (k : Int) = e by omega]
      simp
  · rw [if_neg hsub] at hex
    have hk52 : 4503599627370496 ≤ kept := by omega
    obtain ⟨q, hq⟩ : ∃ q : Nat, (q : Int) = last + 1074 := ⟨(last + 1074).toNat, by omega⟩
    rw [show (last + 1074).toNat = q by omega] at hex
    have hq2 : q < 2046 := by omega
    obtain ⟨f, hf⟩ : ∃ f, kept = 4503599627370496 + f := ⟨kept - 4503599627370496, by omega⟩
    have hf2 : f < 4503599627370496 := by omega
    obtain ⟨P, hP⟩ : ∃ P, P = q * 4503599627370496 + kept := ⟨_, rfl⟩
    have hs : P < 9218868437227405312 := by omega
    have hd : P / 4503599627370496 = q + 1 := by omega
    have hmod : P % 4503599627370496 + 4503599627370496 = kept := by omega
    have hP0 : ¬ P = 0 := by omega
    have hm1 : P % 9223372036854775808 = P := by omega
    have hm2 : (P + 9223372036854775808) % 9223372036854775808 = P := by omega
    have hge : ¬ 9223372036854775808 - 4503599627370496 ≤ P := by omega
    have hee : (-1074 : Int) + (((q + 1 : Nat) : Int) - 1) + (k : Int) = e := by omega
    have hdec : decide (9223372036854775808 ≤ P) = false := by rw [decide_eq_false_iff_not]; omega
    have hdec2 : decide (9223372036854775808 ≤ P + 9223372036854775808) = true := by rw [decide_eq_true_iff]; omega
    rw [hex, ← hP]
    unfold signed64N partsN
    simp only [show (2 : Nat) ^ (52 + 11) = 9223372036854775808 from rfl, show (2 : Nat) ^ 52 = 4503599627370496 from rfl]
    cases neg with
    | false =>
      simp only [Bool.false_eq_true, if_false]
      rw [hm1, if_neg hge, if_neg hP0, hd, hmod, if_pos (Nat.succ_pos q), if_pos (Nat.succ_pos q), hctz, hdiv, hee, hdec]
      exact ⟨rfl, by omega⟩
    | true =>
      simp only [if_true]
      rw [hm2, if_neg hge, if_neg hP0, hd, hmod, if_pos (Nat.succ_pos q), if_pos (Nat.succ_pos q), hctz, hdiv, hee, hdec2]
      exact ⟨rfl, by omega⟩
end Go.Proofs.YticnefkdkkjgcaaGreatDoor

/- What may be: a node, a value; what is read may be. Plain Lean. -/
namespace Go.Proofs.YticnefkdkkjgcaaGreatDoor

/-! ### floats -/
theorem parts_odd {F X x : Nat} {L : Int} (hF : F ≤ 52) (hL : -1074 ≤ L) (hX : 2 ^ X ≤ 2048) (hL0 : L ≤ 0) (hE : L + ((2 ^ X : Nat) : Int) ≤ 1000) (hFX : (F : Int) + 1 + L + ((2 ^ X : Nat) : Int) - 3 ≤ 1024) {neg : Bool} {m : Nat} {e : Int} (h : partsN F L X x = some (neg, m, e)) :
    (m = 0 ∧ e = 0) ∨ ∃ j, m = 2 * j + 1 ∧ m < 9007199254740992 ∧ -1074 ≤ e ∧ (bitsN m : Int) + e ≤ 1024 := by
  obtain ⟨h1, h2, _⟩ := parts_bd hF hL hX hL0 hE h
  unfold partsN at h
  simp only at h
  split at h
  · cases h
  rename_i hinf
  split at h
  · simp only [Option.some.injEq, Prod.mk.injEq] at h
    obtain ⟨-, rfl, rfl⟩ := h
    exact .inl ⟨rfl, rfl⟩
  rename_i hz
  right
  simp only [Option.some.injEq, Prod.mk.injEq] at h
  obtain ⟨-, hm, he⟩ := h
  obtain ⟨size, hsize⟩ : ∃ size, size = x % 2 ^ (F + X) := ⟨_, rfl⟩
  rw [← hsize] at hm he hinf hz
  have hp : 0 < 2 ^ F := Nat.two_pow_pos F
  have hp2 : 2 ^ (F + 1) = 2 * 2 ^ F := by rw [Nat.pow_succ]; omega
  obtain ⟨m0, hm0⟩ : ∃ m0, m0 = if 0 < size / 2 ^ F then size % 2 ^ F + 2 ^ F else size := ⟨_, rfl⟩
  have hm0p : 0 < m0 ∧ m0 < 2 ^ (F + 1) := by
    rw [hm0]
    split
    · have := Nat.mod_lt size hp; omega
    · rename_i h0
      have : size < 2 ^ F := (Nat.div_eq_zero_iff_lt hp).1 (Nat.eq_zero_of_not_pos h0)
      omega
  rw [← hm0] at hm he
  have h53 : 2 ^ (F + 1) ≤ 2 ^ 53 := Nat.pow_le_pow_right (by decide) (by omega)
  have h64 : m0 < 2 ^ 64 := by
    have : (2 : Nat) ^ 53 < 2 ^ 64 := by decide
    omega
  obtain ⟨j, hj, _⟩ := ctz_spec hm0p.1 h64
  obtain ⟨t, ht⟩ : ∃ t, t = Lib.ctz 64 m0 := ⟨_, rfl⟩
  rw [← ht] at hj hm he
  have hmj : m = 2 * j + 1 := by rw [← hm, hj]; exact Nat.mul_div_cancel_left _ (Nat.two_pow_pos t)
  have hbt : bitsN m + t ≤ F + 1 := by
    have hb := (pow_bits (m := m) (by omega)).1
    have hb0 : 1 ≤ bitsN m := by
      rcases Nat.eq_zero_or_pos (bitsN m) with h | h
      · have := bitsN_lt m; rw [h] at this; omega
      · exact h
    have h3 : 2 ^ (bitsN m - 1) * 2 ^ t ≤ m0 := by rw [hj, ← hmj, Nat.mul_comm]; exact Nat.mul_le_mul_left _ hb
    rw [← Nat.pow_add] at h3
    have h4 : 2 ^ (bitsN m - 1 + t) < 2 ^ (F + 1) := Nat.lt_of_le_of_lt h3 hm0p.2
    have h5 := (Nat.pow_lt_pow_iff_right (a := 2) (by decide)).1 h4
    omega
  have h6 : size < 2 ^ F * (2 ^ X - 1) := by rw [Nat.mul_sub, ← Nat.pow_add, Nat.mul_one]; omega
  have h7 : size / 2 ^ F < 2 ^ X - 1 := (Nat.div_lt_iff_lt_mul hp).2 (by rw [Nat.mul_comm]; exact h6)
  have hX1 : 1 ≤ 2 ^ X := Nat.two_pow_pos X
  generalize size / 2 ^ F = q at he h7
  generalize 2 ^ X = b at *
  refine ⟨j, hmj, h1, h2, ?_⟩
  split at he <;> omega
/-- may the pattern be a float's? -/
def floatB (b : Nat) : Bool := if classN 52 11 b = 5 then decide (b = 9221120237041090560) else if classN 52 11 b = 4 then true else (intN 52 (-1074) 11 b).isNone
theorem class_of_parts {b : Nat} {y : Bool × Nat × Int} (h : partsN 52 (-1074) 11 b = some y) : classN 52 11 b ≠ 5 ∧ classN 52 11 b ≠ 4 := by
  unfold partsN at h
  simp only at h
  split at h
  · cases h
  · rename_i h1
    unfold classN
    rw [if_neg (by omega), if_neg (by omega)]
    constructor <;> (split <;> (try split) <;> decide)
theorem to64_float {F X x : Nat} {L : Int} (hF : F ≤ 52) (hL : -1074 ≤ L) (hX : 2 ^ X ≤ 2048) (hL0 : L ≤ 0) (hE : L + ((2 ^ X : Nat) : Int) ≤ 1000) (hFX : (F : Int) + 1 + L + ((2 ^ X : Nat) : Int) - 3 ≤ 1024) (hi : intN F L X x = none) : floatB (to64N F L X x) = true := by
  unfold intN at hi
  unfold to64N
  cases hp : partsN F L X x with
  | none =>
    dsimp only
    split
    · cases decide (2 ^ (F + X) ≤ x) <;> decide
    · decide
  | some y =>
    obtain ⟨neg, m, e⟩ := y
    rw [hp] at hi
    dsimp only at hi ⊢
    split at hi
    · rename_i he
      rcases parts_odd hF hL hX hL0 hE hFX hp with ⟨-, h0⟩ | ⟨j, rfl, h1, h2, h3⟩
      · omega
      · obtain ⟨h4, -⟩ := parts_exact neg j e h1 h2 h3
        obtain ⟨h5, h6⟩ := class_of_parts h4
        unfold floatB
        rw [if_neg h5, if_neg h6]
        unfold intN
        rw [h4]
        simp [he]
    · cases hi

/-! ### texts -/
/-- encodings one behind the other -/
def goodF : Nat → List Nat → Bool
  | _, [] => true
  | 0, _ => false
  | m + 1, l => match utfK l with
    | some k => goodF m (l.drop k)
    | none => false
def goodT (s : ByteArray) : Bool := goodF s.size (bl s)
theorem utfK_mk1 {c : Nat} {r : List Nat} (h : c < 0x80) : utfK (c :: r) = some 1 := by
  unfold utfK utfN
  simp [h]
/-- an encoding of k bytes is told by them -/
theorem utfK_cut {l l2 : List Nat} {k : Nat} (h : utfK (l ++ l2) = some k) (hk : k ≤ l.length) : utfK l = some k := by
  obtain ⟨c, r, e, g⟩ := utfK_cases h
  match l, hk, e with
  | [], hk, _ => rcases g with ⟨rfl, _⟩ | ⟨rfl, _⟩ | ⟨rfl, _⟩ | ⟨rfl, _⟩ <;> simp at hk
  | [a], hk, e =>
    simp only [List.cons_append, List.nil_append, List.cons.injEq] at e
    obtain ⟨rfl, rfl⟩ := e
    rcases g with ⟨rfl, g⟩ | ⟨rfl, _⟩ | ⟨rfl, _⟩ | ⟨rfl, _⟩
    · exact utfK_mk1 g
    all_goals simp at hk
  | [a, a1], hk, e =>
    simp only [List.cons_append, List.nil_append, List.cons.injEq] at e
    obtain ⟨rfl, rfl⟩ := e
    rcases g with ⟨rfl, g⟩ | ⟨rfl, g1, b1, r1, e1, g2, g3⟩ | ⟨rfl, _⟩ | ⟨rfl, _⟩
    · exact utfK_mk1 g
    · simp only [List.cons.injEq] at e1
      obtain ⟨rfl, rfl⟩ := e1
      exact utfK_mk2 g1 g2 g3
    all_goals simp at hk
  | [a, a1, a2], hk, e =>
    simp only [List.cons_append, List.nil_append, List.cons.injEq] at e
    obtain ⟨rfl, rfl⟩ := e
    rcases g with ⟨rfl, g⟩ | ⟨rfl, g1, b1, r1, e1, g2, g3⟩ | ⟨rfl, g1, b1, b2, r1, e1, g2, g3, g4, g5⟩ | ⟨rfl, _⟩
    · exact utfK_mk1 g
    · simp only [List.cons.injEq] at e1
      obtain ⟨rfl, rfl⟩ := e1
      exact utfK_mk2 g1 g2 g3
    · simp only [List.cons.injEq] at e1
      obtain ⟨rfl, rfl, rfl⟩ := e1
      exact utfK_mk3 g1 g2 g3 g4 g5
    · simp at hk
  | a :: a1 :: a2 :: a3 :: l, hk, e =>
    simp only [List.cons_append, List.cons.injEq] at e
    obtain ⟨rfl, rfl⟩ := e
    rcases g with ⟨rfl, g⟩ | ⟨rfl, g1, b1, r1, e1, g2, g3⟩ | ⟨rfl, g1, b1, b2, r1, e1, g2, g3, g4, g5⟩ | ⟨rfl, g1, b1, b2, b3, r1, e1, g2, g3, g4, g5, g6⟩
    · exact utfK_mk1 g
    · simp only [List.cons.injEq] at e1
      obtain ⟨rfl, rfl⟩ := e1
      exact utfK_mk2 g1 g2 g3
    · simp only [List.cons.injEq] at e1
      obtain ⟨rfl, rfl, rfl⟩ := e1
      exact utfK_mk3 g1 g2 g3 g4 g5
    · simp only [List.cons.injEq] at e1
      obtain ⟨rfl, rfl, rfl, rfl⟩ := e1
      exact utfK_mk4 g1 g2 g3 g4 g5 g6
theorem within_none : ∀ (m i : Nat) (l : List Nat) (k : Nat), withinN l k m i = none → ∀ j, i ≤ j → j < i + m → j < k → j < l.length → goodN (l.take (j + 1)) k = true
  | 0, i, _, _, _, j, h1, h2, _, _ => by omega
  | m + 1, i, l, k, h, j, h1, h2, h3, h4 => by
    simp only [withinN] at h
    rw [if_pos ⟨by omega, by omega⟩] at h
    split at h
    · rename_i hg
      rcases Nat.lt_or_ge i j with h5 | h5
      · exact within_none m (i + 1) l k h j (by omega) (by omega) h3 h4
      · obtain rfl : i = j := by omega
        exact hg
    · cases h
theorem leadK_le {b k : Nat} (h : leadK b = some k) : k ≤ 4 ∧ (k = 1 → b < 0x80) ∧ 1 ≤ k := by
  unfold leadK at h
  split at h
  · simp only [Option.some.injEq] at h; omega
  · split at h
    · simp only [Option.some.injEq] at h; omega
    · split at h
      · simp only [Option.some.injEq] at h; omega
      · split at h
        · simp only [Option.some.injEq] at h; omega
        · cases h
theorem first_room {l : List Nat} {n : Nat} (hl : l ≠ []) (hn : l.length = n) (hk : utfK l = none) : firstN l n ≠ none := by
  intro hf
  match l, hl with
  | b :: l, _ =>
    unfold firstN at hf
    dsimp only at hf
    cases hb : leadK b with
    | none => rw [hb] at hf; cases hf
    | some k =>
      rw [hb] at hf
      dsimp only at hf
      obtain ⟨h4, h1, h0⟩ := leadK_le hb
      split at hf
      · cases hf
      rename_i hnk
      rcases Nat.lt_or_ge 1 k with h2 | h2
      · have hg := within_none 4 1 (b :: l) k hf (k - 1) (by omega) (by omega) (by omega) (by omega)
        rw [show k - 1 + 1 = k by omega] at hg
        have hlen : ((b :: l).take k).length = k := by rw [List.length_take]; omega
        have hT : utfK ((b :: l).take k) = some k := by
          unfold goodN at hg
          simp only [Bool.or_eq_true, beq_iff_eq] at hg
          rcases hg with (hg | hg) | hg
          · exact hg
          · exact utfK_cut hg (by omega)
          · exact utfK_cut hg (by omega)
        have := utfK_app ((b :: l).drop k) hT
        rw [List.take_append_drop, hk] at this
        cases this
      · have := utfK_mk1 (r := l) (h1 (by omega))
        rw [hk] at this
        cases this
theorem good_of_scan : ∀ (m : Nat) (l : List Nat) (n : Nat), l.length ≤ m → l.length = n → scanN m l n = none → goodF m l = true
  | 0, l, _, h, _, _ => by
    have : l = [] := List.length_eq_zero_iff.1 (by omega)
    subst this
    rfl
  | m + 1, [], _, _, _, _ => rfl
  | m + 1, a :: l, n, h, hn, hs => by
    simp only [scanN] at hs
    cases hk : utfK (a :: l) with
    | some k =>
      rw [hk] at hs
      obtain ⟨h1, h2, _⟩ := utfK_pos hk
      simp only [goodF, hk]
      refine good_of_scan m _ (n - k) (by rw [List.length_drop]; omega) (by rw [List.length_drop]; omega) ?_
      simpa using hs
    | none =>
      rw [hk] at hs
      exact absurd hs (first_room (by simp) hn hk)
end Go.Proofs.YticnefkdkkjgcaaGreatDoor

/- What is read may be: the order turned about, keys that rise, nodes. Plain Lean. -/
namespace Go.Proofs.YticnefkdkkjgcaaGreatDoor

/-! ### the order, turned about -/
theorem cmpI_anti (a b : Int) : cmpI a b = - cmpI b a := by
  unfold cmpI
  split <;> split <;> (try split) <;> omega
theorem orI_anti (a b : Int) : - orI a b = orI (-a) (-b) := by
  unfold orI
  split <;> split <;> omega
theorem cmpRev_anti : ∀ (a b : List Nat), cmpRev a b = - cmpRev b a
  | [], [] => rfl
  | [], _ :: _ => rfl
  | _ :: _, [] => rfl
  | x :: l, y :: l' => by
    unfold cmpRev
    by_cases h : x = y
    · rw [if_pos h, if_pos h.symm]; exact cmpRev_anti l l'
    · rw [if_neg h, if_neg (Ne.symm h)]; exact cmpI_anti _ _
theorem cmpL_anti (a b : List Nat) : cmpL a b = - cmpL b a := by
  unfold cmpL
  by_cases h : a.length = b.length
  · rw [if_pos h, if_pos h.symm]; exact cmpRev_anti _ _
  · rw [if_neg h, if_neg (Ne.symm h)]; exact cmpI_anti _ _
theorem cmpW_anti (g : Bool) (a : List Nat) (g' : Bool) (b : List Nat) : cmpW g a g' b = - cmpW g' b g a := by
  unfold cmpW
  generalize sgn g (cutN a a.length) = s
  generalize sgn g' (cutN b b.length) = s'
  rcases Int.lt_trichotomy s s' with h | rfl | h
  · rw [if_pos h, if_neg (by omega), if_pos h]
  · simp only [Int.lt_irrefl, if_false]
    rw [cmpL_anti, Int.mul_neg]
  · rw [if_neg (by omega), if_pos h, if_pos h]
    rfl
theorem total64_anti (x y : Nat) : total64 x y = - total64 y x := by
  unfold total64
  split <;> split <;> first | exact cmpI_anti _ _ | rfl
theorem lexN_anti : ∀ (a b : List Nat), lexN a b = - lexN b a
  | [], [] => rfl
  | [], _ :: _ => rfl
  | _ :: _, [] => rfl
  | x :: l, y :: l' => by
    unfold lexN
    by_cases h : x = y
    · rw [if_pos h, if_pos h.symm]; exact lexN_anti l l'
    · rw [if_neg h, if_neg (Ne.symm h)]; exact cmpI_anti _ _
mutual
theorem cmpV_anti : ∀ (a b : V), cmpV a b = - cmpV b a
  | .mk k n neg mag bits ext text kids, .mk k' n' neg' mag' bits' ext' text' kids' => by
    unfold cmpV
    rw [orI_anti, orI_anti, orI_anti, orI_anti, orI_anti, orI_anti, ← cmpI_anti, ← cmpI_anti, ← cmpI_anti, ← cmpW_anti, ← total64_anti, ← lexN_anti, ← cmpVL_anti kids kids']
theorem cmpVL_anti : ∀ (a b : List V), cmpVL a b = - cmpVL b a
  | [], [] => rfl
  | [], _ :: _ => rfl
  | _ :: _, [] => rfl
  | a :: l, b :: l' => by
    unfold cmpVL
    rw [orI_anti, ← cmpV_anti a b, ← cmpVL_anti l l']
end

/-! ### keys that rise -/
/-- the keys, each at an even place, rise -/
def RiseP (l : List V) : Prop := l.length % 2 = 0 ∧ ∀ i, 2 * i + 2 < l.length → cmpV (l.getD (2 * i) V.nul) (l.getD (2 * i + 2) V.nul) < 0
theorem rise_nil : RiseP [] := ⟨rfl, fun i h => by simp at h⟩
theorem place_spec (acc : List V) (key : V) : ∀ M, placeN Wd acc key M ≤ M ∧ (∀ j, placeN Wd acc key M ≤ j → j < M → 0 ≤ cmpV (acc.getD (2 * j) V.nul) key) ∧ (0 < placeN Wd acc key M → cmpV (acc.getD (2 * (placeN Wd acc key M - 1)) V.nul) key < 0)
  | 0 => ⟨Nat.le_refl _, fun j _ h => by omega, fun h => by simp [placeN] at h⟩
  | m + 1 => by
    obtain ⟨h1, h2, h3⟩ := place_spec acc key m
    unfold placeN
    by_cases h : 0 ≤ Wd.cmp (acc.getD (2 * m) V.nul) key
    · rw [if_pos h]
      refine ⟨by omega, fun j hj hm => ?_, h3⟩
      rcases Nat.lt_or_ge j m with h4 | h4
      · exact h2 j hj h4
      · obtain rfl : j = m := by omega
        exact h
    · rw [if_neg h]
      refine ⟨Nat.le_refl _, fun j h4 h5 => by omega, fun _ => ?_⟩
      rw [Nat.add_sub_cancel]
      have h' : ¬ 0 ≤ cmpV (acc.getD (2 * m) V.nul) key := h
      omega
theorem ins_get (acc : List V) (m : Nat) (key x : V) (hm : 2 * m ≤ acc.length) (i : Nat) : (insN acc m key x).getD i V.nul = if i < 2 * m then acc.getD i V.nul else if i = 2 * m then key else if i = 2 * m + 1 then x else acc.getD (i - 2) V.nul := by
  unfold insN
  have hl : (acc.take (2 * m)).length = 2 * m := by rw [List.length_take]; omega
  simp only [List.getD_eq_getElem?_getD]
  by_cases h : i < 2 * m
  · rw [if_pos h, List.getElem?_append_left (by omega), List.getElem?_take, if_pos h]
  · rw [if_neg h, List.getElem?_append_right (by omega), hl]
    by_cases h1 : i = 2 * m
    · subst h1; simp
    · rw [if_neg h1]
      by_cases h2 : i = 2 * m + 1
      · subst h2; simp
      · rw [if_neg h2]
        obtain ⟨d, rfl⟩ : ∃ d, i = 2 * m + (d + 2) := ⟨i - 2 * m - 2, by omega⟩
        rw [show 2 * m + (d + 2) - 2 * m = d + 2 by omega, List.getElem?_cons_succ, List.getElem?_cons_succ, List.getElem?_drop]
        congr 2
theorem ins_len (acc : List V) (m : Nat) (key x : V) (hm : 2 * m ≤ acc.length) : (insN acc m key x).length = acc.length + 2 := by
  unfold insN
  simp only [List.length_append, List.length_take, List.length_cons, List.length_drop]
  omega
theorem rise_ins {acc : List V} {key : V} (x : V) (h : RiseP acc) (hd : dupN Wd acc (placeN Wd acc key (acc.length / 2)) key = false) : RiseP (insN acc (placeN Wd acc key (acc.length / 2)) key x) := by
  obtain ⟨h1, h2, h3⟩ := place_spec acc key (acc.length / 2)
  generalize placeN Wd acc key (acc.length / 2) = m at *
  obtain ⟨he, hr⟩ := h
  have hm : 2 * m ≤ acc.length := by omega
  refine ⟨by rw [ins_len acc m key x hm]; omega, fun i hi => ?_⟩
  rw [ins_len acc m key x hm] at hi
  rw [ins_get acc m key x hm, ins_get acc m key x hm]
  rcases Nat.lt_trichotomy (i + 1) m with h4 | rfl | h4
  · rw [if_pos (by omega), if_pos (by omega)]
    exact hr i (by omega)
  · rw [if_pos (by omega), if_neg (by omega), if_pos (by omega)]
    have := h3 (by omega)
    rwa [Nat.add_sub_cancel] at this
  · rcases Nat.lt_or_ge m i with h5 | h5
    · rw [if_neg (by omega), if_neg (by omega), if_neg (by omega), if_neg (by omega), if_neg (by omega), if_neg (by omega)]
      have := hr (i - 1) (by omega)
      rwa [show 2 * (i - 1) = 2 * i - 2 by omega, show 2 * i - 2 + 2 = 2 * i + 2 - 2 by omega] at this
    · obtain rfl : i = m := by omega
      rw [if_neg (by omega), if_pos rfl, if_neg (by omega), if_neg (by omega), if_neg (by omega), show 2 * i + 2 - 2 = 2 * i by omega]
      have h6 := h2 i (Nat.le_refl _) (by omega)
      have h7 : ¬ cmpV (acc.getD (2 * i) V.nul) key = 0 := by
        intro h8
        unfold dupN at hd
        rw [decide_eq_true (by omega), Bool.true_and, decide_eq_false_iff_not] at hd
        exact hd h8
      rw [cmpV_anti]
      omega

/-! ### nodes -/
/-- a node that may be, its kids aside -/
inductive AloneP : V → Prop
  | nul : AloneP V.nul
  | boo (n : Nat) (h : n < 2) : AloneP (V.boo n)
  | int (neg : Bool) (mag : List Nat) (h : mag = [] → neg = false) (h1 : ∀ hne : mag ≠ [], mag.getLast hne ≠ 0) : AloneP (V.int neg mag)
  | flo (b : Nat) (h : floatB b = true) (h1 : b < 18446744073709551616) : AloneP (V.flo b)
  | tex (t : ByteArray) (h : goodT t = true) : AloneP (V.tex t)
  | byt (t : ByteArray) : AloneP (V.byt t)
  | lis (l : List V) : AloneP (V.lis l)
  | map (l : List V) (h : RiseP l) : AloneP (V.map l)
  | tag (n : Nat) (v : V) (h : n ≠ 2) (h1 : n ≠ 3) : AloneP (.mk 9 n false [] 0 0 ⟨#[]⟩ [v])
  | sim (n : Nat) (h : n < 20 ∨ n = 23 ∨ 32 ≤ n ∧ n < 256) : AloneP (.mk 10 n false [] 0 0 ⟨#[]⟩ [])
  | xt (e : Int) (t : ByteArray) : AloneP (V.xt e t)
mutual
def AllV : V → Prop
  | .mk k n neg mag bits ext text kids => AloneP (.mk k n neg mag bits ext text kids) ∧ AllL kids
def AllL : List V → Prop
  | [] => True
  | v :: l => AllV v ∧ AllL l
end
theorem allL_iff : ∀ (l : List V), AllL l ↔ ∀ v ∈ l, AllV v
  | [] => by simp [AllL]
  | v :: l => by simp [AllL, allL_iff l]
mutual
/-- neither a tag nor a simple value within -/
def Own : V → Prop
  | .mk k _ _ _ _ _ _ kids => k ≠ 9 ∧ k ≠ 10 ∧ OwnL kids
def OwnL : List V → Prop
  | [] => True
  | v :: l => Own v ∧ OwnL l
end
theorem ownL_iff : ∀ (l : List V), OwnL l ↔ ∀ v ∈ l, Own v
  | [] => by simp [OwnL]
  | v :: l => by simp [OwnL, ownL_iff l]

theorem all_int (neg : Bool) (l : List Nat) : AllV (V.int (negN neg (cutN (cutL l) (cutN l l.length))) (cutL (cutL l))) ∧ Own (V.int (negN neg (cutN (cutL l) (cutN l l.length))) (cutL (cutL l))) := by
  refine ⟨⟨.int _ _ (fun h => ?_) (fun h => (cutL_nrm _).last h), trivial⟩, by decide, by decide, trivial⟩
  unfold negN
  have h1 := cutL_len (cutL l)
  rw [h, cutL_len l] at h1
  rw [← h1]
  simp
theorem all_two (x : Nat) : AllV (wholeV x) ∧ Own (wholeV x) := by
  have h := all_int false (two32 x)
  rw [show (two32 x).length = 2 from rfl] at h
  have e : negN (negN false (cutN (two32 x) 2)) (cutN (cutL (two32 x)) (cutN (two32 x) 2)) = negN false (cutN (cutL (two32 x)) (cutN (two32 x) 2)) := by simp [negN]
  unfold wholeV
  rw [e]
  exact h
theorem all_two' (x : Nat) : AllV (belowV x) ∧ Own (belowV x) := by
  have h := all_int (decide (0 < cutN (two32 x) 2)) (two32 x)
  exact h
theorem all_ofV {F X x : Nat} {L : Int} (hF : F ≤ 52) (hL : -1074 ≤ L) (hX : 2 ^ X ≤ 2048) (hL0 : L ≤ 0) (hE : L + ((2 ^ X : Nat) : Int) ≤ 1000) (hFX : (F : Int) + 1 + L + ((2 ^ X : Nat) : Int) - 3 ≤ 1024) : AllV (ofV F L X x) ∧ Own (ofV F L X x) := by
  have hsm := ofV_sm (x := x) hF hL hX hL0 hE
  unfold ofV at hsm ⊢
  cases hi : intN F L X x with
  | none =>
    rw [hi] at hsm
    exact ⟨⟨.flo _ (to64_float hF hL hX hL0 hE hFX hi) hsm.2.2.1, trivial⟩, by decide, by decide, trivial⟩
  | some y =>
    obtain ⟨neg, n⟩ := y
    dsimp only
    refine ⟨⟨.int _ _ (fun h => ?_) (fun h => (numL_nrm n).last h), trivial⟩, by decide, by decide, trivial⟩
    have hn : n = 0 := (numL_zero_iff n).1 h
    unfold intN at hi
    cases hp : partsN F L X x with
    | none => rw [hp] at hi; cases hi
    | some z =>
      obtain ⟨g, m, e⟩ := z
      rw [hp] at hi
      dsimp only at hi
      split at hi
      · cases hi
      · simp only [Option.some.injEq, Prod.mk.injEq] at hi
        obtain ⟨rfl, h2⟩ := hi
        rw [hn] at h2
        have h3 : m = 0 := by
          rcases Nat.mul_eq_zero.1 h2 with h | h
          · exact h
          · have := Nat.two_pow_pos e.toNat; omega
        subst h3
        simp

/-! ### what is read -/
section
variable {s : ByteArray} {it : Nat → R V} (hit : ∀ p v q, it p = .ok v q → AllV v ∧ Own v)
include hit
theorem rounds_all : ∀ (n p : Nat) (acc l : List V) (q : Nat), (AllL acc ∧ OwnL acc) → roundsN it n p acc = .ok l q → AllL l ∧ OwnL l
  | 0, p, acc, l, q, ha, h => by
    simp only [roundsN, R.ok.injEq] at h
    obtain ⟨rfl, -⟩ := h
    exact ha
  | n + 1, p, acc, l, q, ha, h => by
    simp only [roundsN] at h
    cases hi : it p with
    | bad c r => rw [hi] at h; cases h
    | ok v p1 =>
      rw [hi] at h
      obtain ⟨h1, h2⟩ := hit p v p1 hi
      refine rounds_all n p1 (acc ++ [v]) l q ⟨(allL_iff _).2 fun y hy => ?_, (ownL_iff _).2 fun y hy => ?_⟩ h
      · rcases List.mem_append.1 hy with hy | hy
        · exact (allL_iff _).1 ha.1 y hy
        · obtain rfl := List.mem_singleton.1 hy; exact h1
      · rcases List.mem_append.1 hy with hy | hy
        · exact (ownL_iff _).1 ha.2 y hy
        · obtain rfl := List.mem_singleton.1 hy; exact h2
theorem pairs_all : ∀ (n p : Nat) (acc l : List V) (q : Nat), (AllL acc ∧ OwnL acc ∧ RiseP acc) → pairsN Wd it n p acc = .ok l q → AllL l ∧ OwnL l ∧ RiseP l
  | 0, p, acc, l, q, ha, h => by
    simp only [pairsN, R.ok.injEq] at h
    obtain ⟨rfl, -⟩ := h
    exact ha
  | n + 1, p, acc, l, q, ha, h => by
    simp only [pairsN] at h
    cases hi : it p with
    | bad c r => rw [hi] at h; cases h
    | ok v p1 =>
      rw [hi] at h
      obtain ⟨h1, h2⟩ := hit p v p1 hi
      simp only [R.bind] at h
      split at h
      · cases h
      rename_i hd
      cases hj : it p1 with
      | bad c r => rw [hj] at h; cases h
      | ok x p2 =>
        rw [hj] at h
        obtain ⟨h3, h4⟩ := hit p1 x p2 hj
        have hmem : ∀ y, y ∈ insN acc (placeN Wd acc v (acc.length / 2)) v x → y ∈ acc ∨ y = v ∨ y = x := fun y hy => by
          unfold insN at hy
          rcases List.mem_append.1 hy with hy | hy
          · exact .inl (List.mem_of_mem_take hy)
          · rcases List.mem_cons.1 hy with rfl | hy
            · exact .inr (.inl rfl)
            · rcases List.mem_cons.1 hy with rfl | hy
              · exact .inr (.inr rfl)
              · exact .inl (List.mem_of_mem_drop hy)
        refine pairs_all n p2 _ l q ⟨(allL_iff _).2 fun y hy => ?_, (ownL_iff _).2 fun y hy => ?_, rise_ins x ha.2.2 (by simpa using hd)⟩ h
        · rcases hmem y hy with hy | rfl | rfl
          · exact (allL_iff _).1 ha.1 y hy
          · exact h1
          · exact h3
        · rcases hmem y hy with hy | rfl | rfl
          · exact (ownL_iff _).1 ha.2.1 y hy
          · exact h2
          · exact h4
end
def wordB : Option (Fam × Nat × Nat) → Bool
  | some (.word, n, w) => decide (n ≤ 2) && decide (w = 0)
  | _ => true
theorem words_fit : ((List.range 256).all fun c => wordB (pickN c)) = true := by kernel_rfl
theorem word_fit {c n w : Nat} (h : c < 256) (hp : pickN c = some (.word, n, w)) : n ≤ 2 ∧ w = 0 := by
  have := List.all_eq_true.1 words_fit c (List.mem_range.2 h)
  rw [hp] at this
  simpa [wordB] using this
theorem all_flat {v : V} (h : AloneP v) (hk : ∀ k n g m b e t kids, v = .mk k n g m b e t kids → kids = [] ∧ k ≠ 9 ∧ k ≠ 10) : AllV v ∧ Own v := by
  obtain ⟨k, n, g, m, b, e, t, kids⟩ := v
  obtain ⟨rfl, h1, h2⟩ := hk _ _ _ _ _ _ _ _ rfl
  exact ⟨⟨h, trivial⟩, h1, h2, trivial⟩
theorem fam_all {s : ByteArray} {inner : Option (Nat → R V)} (hin : ∀ it, inner = some it → ∀ p v q, it p = .ok v q → AllV v ∧ Own v) (fr : Nat) (f : Fam) (n p : Nat) (hw : ∀ _ : f = .word, n ≤ 2) {v : V} {q : Nat} (h : famR Wd s inner fr f n p = .ok v q) : AllV v ∧ Own v := by
  cases f with
  | word =>
    simp only [famR, R.ok.injEq] at h
    obtain ⟨rfl, -⟩ := h
    have := hw rfl
    split
    · exact all_flat .nul (fun _ _ _ _ _ _ _ _ e => by cases e; exact ⟨rfl, by decide, by decide⟩)
    · exact all_flat (.boo _ (by omega)) (fun _ _ _ _ _ _ _ _ e => by cases e; exact ⟨rfl, by decide, by decide⟩)
  | whole => simp only [famR, R.ok.injEq] at h; obtain ⟨rfl, -⟩ := h; exact all_two _
  | below => simp only [famR, R.ok.injEq] at h; obtain ⟨rfl, -⟩ := h; exact all_two' _
  | single => simp only [famR, R.ok.injEq] at h; obtain ⟨rfl, -⟩ := h; exact all_ofV (by decide) (by decide) (by decide) (by decide) (by decide) (by decide)
  | double => simp only [famR, R.ok.injEq] at h; obtain ⟨rfl, -⟩ := h; exact all_ofV (by decide) (by decide) (by decide) (by decide) (by decide) (by decide)
  | signed =>
    simp only [famR] at h
    cases ht : takeR s p n with
    | bad c r => rw [ht] at h; cases h
    | ok t p1 =>
      rw [ht] at h
      simp only [R.bind, R.ok.injEq] at h
      obtain ⟨rfl, -⟩ := h
      exact all_int _ _
  | bytes =>
    simp only [famR] at h
    cases ht : takeR s p n with
    | bad c r => rw [ht] at h; cases h
    | ok t p1 =>
      rw [ht] at h
      simp only [R.bind, R.ok.injEq] at h
      obtain ⟨rfl, -⟩ := h
      exact all_flat (.byt _) (fun _ _ _ _ _ _ _ _ e => by cases e; exact ⟨rfl, by decide, by decide⟩)
  | ext =>
    simp only [famR] at h
    cases ht : takeR s p 1 with
    | bad c r => rw [ht] at h; cases h
    | ok t p1 =>
      rw [ht] at h
      simp only [R.bind] at h
      cases hu : takeR s p1 n with
      | bad c r => rw [hu] at h; cases h
      | ok u p2 =>
        rw [hu] at h
        simp only [R.ok.injEq] at h
        obtain ⟨rfl, -⟩ := h
        exact all_flat (.xt _ _) (fun _ _ _ _ _ _ _ _ e => by cases e; exact ⟨rfl, by decide, by decide⟩)
  | text =>
    simp only [famR] at h
    cases ht : textR s p n with
    | bad c r => rw [ht] at h; cases h
    | ok t p1 =>
      rw [ht] at h
      simp only [R.bind, R.ok.injEq] at h
      obtain ⟨rfl, -⟩ := h
      refine all_flat (.tex _ ?_) (fun _ _ _ _ _ _ _ _ e => by cases e; exact ⟨rfl, by decide, by decide⟩)
      unfold textR at ht
      split at ht
      · cases ht
      rename_i hs
      unfold takeR at ht
      split at ht
      · cases ht
      rename_i hn
      simp only [R.ok.injEq] at ht
      obtain ⟨rfl, -⟩ := ht
      have e1 : min n (s.size - p) = n := by omega
      rw [e1] at hs
      have hl : (bl (s.extract p (p + n))).length = n := by rw [bl_len, ByteArray.size_extract]; omega
      unfold goodT
      rw [show (s.extract p (p + n)).size = n by rw [← bl_len, hl]]
      refine good_of_scan n _ n (by omega) hl ?_
      rw [← scan_fuel (m := s.size - p) (m' := n) (l := bl (s.extract p (p + n))) (n := n) (by omega) (by omega) (by omega)]
      exact hs
  | list =>
    cases inner with
    | none => cases h
    | some it =>
      simp only [famR] at h
      cases ht : roundsN it n p [] with
      | bad c r => rw [ht] at h; cases h
      | ok l p1 =>
        rw [ht] at h
        simp only [R.bind, R.ok.injEq] at h
        obtain ⟨rfl, -⟩ := h
        obtain ⟨h1, h2⟩ := rounds_all (hin it rfl) n p [] l p1 ⟨trivial, trivial⟩ ht
        exact ⟨⟨.lis l, h1⟩, by decide, by decide, h2⟩
  | pairs =>
    cases inner with
    | none => cases h
    | some it =>
      simp only [famR] at h
      cases ht : pairsN Wd it n p [] with
      | bad c r => rw [ht] at h; cases h
      | ok l p1 =>
        rw [ht] at h
        simp only [R.bind, R.ok.injEq] at h
        obtain ⟨rfl, -⟩ := h
        obtain ⟨h1, h2, h3⟩ := pairs_all (hin it rfl) n p [] l p1 ⟨trivial, trivial, rise_nil⟩ ht
        exact ⟨⟨.map l h3, h1⟩, by decide, by decide, h2⟩
theorem itemF_all {s : ByteArray} {inner : Option (Nat → R V)} (hin : ∀ it, inner = some it → ∀ p v q, it p = .ok v q → AllV v ∧ Own v) {p : Nat} {v : V} {q : Nat} (h : itemF Wd s inner p = .ok v q) : AllV v ∧ Own v := by
  unfold itemF at h
  cases ht : takeR s p 1 with
  | bad c r => rw [ht] at h; cases h
  | ok t p1 =>
    rw [ht] at h
    simp only [R.bind] at h
    have hc : (bl t).headD 0 < 256 := by
      cases hb : bl t with
      | nil => decide
      | cons a l => exact bl_lt t a (by rw [hb]; exact List.mem_cons_self)
    cases hp : pickN ((bl t).headD 0) with
    | none => rw [hp] at h; cases h
    | some x =>
      obtain ⟨f, n, w⟩ := x
      rw [hp] at h
      dsimp only at h
      by_cases hw : w = 0
      · rw [if_pos hw] at h
        refine fam_all hin _ f n _ (fun e => ?_) h
        subst e
        exact (word_fit hc hp).1
      · rw [if_neg hw] at h
        cases hu : takeR s p1 w with
        | bad c r => rw [hu] at h; cases h
        | ok u p2 =>
          rw [hu] at h
          refine fam_all hin _ f _ _ (fun e => ?_) h
          subst e
          exact absurd (word_fit hc hp).2 hw
theorem item_all (s : ByteArray) : ∀ (d p : Nat) (v : V) (q : Nat), itemN Wd s d p = .ok v q → AllV v ∧ Own v
  | 0, p, v, q, h => itemF_all (inner := none) (fun _ e => by cases e) h
  | d + 1, p, v, q, h => itemF_all (inner := some (itemN Wd s d)) (fun it e => by cases e; exact item_all s d) h
theorem read_own {s : ByteArray} {v : V} {q : Nat} (h : readN Wd s = .ok v q) : AllV v ∧ Own v := by
  unfold readN at h
  cases hi : itemN Wd s 128 0 with
  | bad c q => rw [hi] at h; cases h
  | ok v' q' =>
    rw [hi] at h
    simp only [R.bind] at h
    split at h
    · cases h
    · simp only [R.ok.injEq] at h
      obtain ⟨rfl, rfl⟩ := h
      exact item_all s 128 0 _ _ hi
end Go.Proofs.YticnefkdkkjgcaaGreatDoor
