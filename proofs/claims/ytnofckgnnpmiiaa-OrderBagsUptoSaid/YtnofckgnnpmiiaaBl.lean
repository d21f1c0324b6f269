/- blocks: the pieces of a list of so many elements: its iterator tells them one by one. -/
import Derived.RangeFuncNested
import Derived.RangeFuncBound
import Derived.RangeFuncCalls
import Derived.RangeFuncLeaves
import Derived.RangeFuncWrites
import Derived.Shelf.Abstract
import Derived.Shelf.RegionOpen
import Derived.OwnWalkIn
import Derived.TacticsInMore
import Derived.LoopNIn
import Derived.LoopIn
import Derived.Test.YtnofckgnnpmiiaaMr
namespace Go.Proofs.Ytnofckgnnpmiiaa
open Go.RowKit Go.Shelf
attribute [local go_sem] Oper.semAt_some

/-- the pieces of size elements each of a list of len: by their numbers -/
abbrev Pc (len size : Nat) := { j : Nat // j * size < len }
def Pc.fr {len size : Nat} (j : Pc len size) : Nat := j.1 * size
def Pc.to {len size : Nat} (j : Pc len size) : Nat := if j.1 * size + size ≤ len then j.1 * size + size else len
def Pc.enc {len size : Nat} (j : Pc len size) : Array Value := #[.int .i64 (j.fr : Int), .int .i64 (j.to : Int)]
/-- all of them -/
def Pc.all {len size : Nat} (ys : List (Pc len size)) : Prop := ys.map (·.1) = List.range ys.length ∧ len ≤ ys.length * size

/-- Blocks a and b lie as they lay. -/
def KeepTwo (a b : Nat) (W W' : World) : Prop := W.heap.size ≤ W'.heap.size ∧ W'.heap[a]? = W.heap[a]? ∧ W'.heap[b]? = W.heap[b]?
theorem KeepTwo.trans {a b : Nat} {A B C : World} (h : KeepTwo a b A B) (k : KeepTwo a b B C) : KeepTwo a b A C := ⟨Nat.le_trans h.1 k.1, k.2.1.trans h.2.1, k.2.2.trans h.2.2⟩
theorem KeepTwo.cell {a b : Nat} {W W' : World} (h : KeepTwo a b W W') {p : Addr} (hp : p.block = a ∨ p.block = b) : W'.cell? p = W.cell? p := by
  rcases hp with hp | hp
  · exact World.cell?_of_block (w := W) (by rw [hp]; exact h.2.1)
  · exact World.cell?_of_block (w := W) (by rw [hp]; exact h.2.2)
theorem KeepTwo.putObj {a b B : Nat} (ha : a < B) (hb : b < B) (W : World) (l : Nat) (o o' : Obj) (hl : B ≤ l) (h : W.heap[l]? = some o) (_ : o.isCells = false) (_ : o.isWalk = false) : KeepTwo a b W (W.putObj l o') := by
  have hlt := (Array.getElem?_eq_some_iff.1 h).1
  have hg := grownBy_putObj' W l o'
  exact ⟨hg.size, hg.block a (by omega) (by simp; omega), hg.block b (by omega) (by simp; omega)⟩

set_option maxRecDepth 100000 in
set_option maxHeartbeats 2000000 in
theorem blocks1_in (n l bn bs len size : Nat) (hn1 : 1 ≤ n) (hlen : len ≤ 1000000000000) (hs1 : size ≤ 10000000000000) (hs0 : 0 < size) (J Jx : List (Pc len size) → World → Prop)
    (hY : ∀ pre x W, J pre W → pre.length < len → YieldAt Fence.wide (n - 1) Try.prog l (Pc.enc x) W fun e W' =>
      (e = .returned (.bool true) ∧ J (pre ++ [x]) W' ∧ KeepTwo bn bs W W') ∨ (e = .returned (.bool false) ∧ Jx (pre ++ [x]) W'))
    (W : World) (hn : W.cell? ⟨bn, 0, none⟩ = some (.int .i64 len)) (hs : W.cell? ⟨bs, 0, none⟩ = some (.int .i64 size)) (h0 : J [] W) :
    CallsIn Fence.wide n Try.prog 76 #[.func (.yield l) #[] #[], .pointer (some ⟨bn, 0, none⟩), .pointer (some ⟨bs, 0, none⟩)] W fun e W' => (∃ v, e = .returned v) ∧
      ((∃ ys, Pc.all ys ∧ J ys W') ∨ (∃ pre, True ∧ Jx pre W')) := by
  refine callsIn_of_wp Try.func76 rfl trivial ?_ rfl
  simp only [Try.ntmps76, List.size_toArray, List.length_cons, List.length_nil, Nat.reduceAdd, Nat.reduceSub, Array.replicate_succ, Array.replicate_zero, List.push_toArray, List.append_toArray, List.nil_append, List.cons_append]
  gi_wp2
  gi_loopw [4] (fun i wr => ∃ (k : Nat) (pre : List (Pc len size)), k ≤ len + size ∧ i = .int .i64 k ∧ J pre wr ∧ KeepTwo bn bs W wr ∧ pre.length ≤ k ∧ Hid (k = pre.length * size) ∧ Hid (pre.map (·.1) = List.range pre.length))
    (fun i _ => (len + size) - (intOf i).toNat)
  case atStart => exact ⟨0, [], Nat.zero_le _, rfl, h0, ⟨Nat.le_refl _, rfl, rfl⟩, Nat.le_refl _, by unfold Hid; simp, by unfold Hid; simp⟩
  case round =>
    obtain ⟨k, pre, hk, rfl, hJs, hkp, hpl, HK, HP⟩ := hrel
    have hn' := (hkp.cell (p := ⟨bn, 0, none⟩) (.inl rfl)).trans hn
    have hs' := (hkp.cell (p := ⟨bs, 0, none⟩) (.inr rfl)).trans hs
    by_cases hlt : k < len
    · have hx : pre.length * size < len := by rw [← HK.out]; exact hlt
      have HST : ∀ x : Pc len size, x.1 = pre.length → Hid (k + size = (pre ++ [x]).length * size) ∧ Hid ((pre ++ [x]).map (·.1) = List.range (pre ++ [x]).length) := fun x hx => by
        unfold Hid
        rw [HK.out, List.length_append, List.map_append, HP.out]
        refine ⟨by simp [Nat.add_mul], by simp [List.range_succ, hx]⟩
      have HS2 := Lib.hid HST
      clear HST
      obtain ⟨x, HX⟩ : ∃ x : Pc len size, Hid (x.1 = pre.length) := ⟨⟨pre.length, hx⟩, Lib.hid rfl⟩
      clear hx
      obtain ⟨fn, tmps, assign, body, hy, hR⟩ := hY pre x wr hJs (by omega)
      unfold Pc.enc Pc.fr Pc.to at hy
      simp only [HX.out, ← HK.out] at hy
      by_cases hm : k + size ≤ len
      · rw [if_pos hm] at hy
        simp only [Int.natCast_add] at hy
        gi_wp2
        refine hR.mono ?_
        rintro e W3 (⟨rfl, hJ3, hk3⟩ | ⟨rfl, hJx3⟩)
        · have hs3 := (hk3.cell (p := ⟨bs, 0, none⟩) (.inr rfl)).trans hs'
          gi_wp2
          go_roundw
          case rel => exact ⟨k + size, _, by omega, by go_num, hJ3, hkp.trans hk3, by rw [List.length_append]; simp; omega, (HS2.out _ HX.out).1, (HS2.out _ HX.out).2⟩
          case measure => simp [intOf]; omega
        · gi_wp2
          refine bodyPost_ret (results_none rfl _ _ _) rfl ?_
          exact ⟨⟨_, rfl⟩, .inr ⟨_, trivial, hJx3⟩⟩
      · rw [if_neg hm] at hy
        have hm' : (len : Int) < (k : Int) + (size : Int) := by omega
        gi_wp2
        refine hR.mono ?_
        rintro e W3 (⟨rfl, hJ3, hk3⟩ | ⟨rfl, hJx3⟩)
        · have hs3 := (hk3.cell (p := ⟨bs, 0, none⟩) (.inr rfl)).trans hs'
          gi_wp2
          go_roundw
          case rel => exact ⟨k + size, _, by omega, by go_num, hJ3, hkp.trans hk3, by rw [List.length_append]; simp; omega, (HS2.out _ HX.out).1, (HS2.out _ HX.out).2⟩
          case measure => simp [intOf]; omega
        · gi_wp2
          refine bodyPost_ret (results_none rfl _ _ _) rfl ?_
          exact ⟨⟨_, rfl⟩, .inr ⟨_, trivial, hJx3⟩⟩
    · gi_wp2
      go_end0
      exact ⟨⟨_, rfl⟩, .inl ⟨_, ⟨HP.out, by rw [← HK.out]; omega⟩, hJs⟩⟩

theorem blocks_stops (n bn bs len size : Nat) (hn1 : 1 ≤ n) (hlen : len ≤ 1000000000000) (hs1 : size ≤ 10000000000000) (hs0 : 0 < size) (w : World) (hbn : bn < w.heap.size) (hbs : bs < w.heap.size)
    (hn : w.cell? ⟨bn, 0, none⟩ = some (.int .i64 len)) (hs : w.cell? ⟨bs, 0, none⟩ = some (.int .i64 size)) :
    SeqStopsK Fence.wide n Try.prog 76 #[.pointer (some ⟨bn, 0, none⟩), .pointer (some ⟨bs, 0, none⟩)] (Pc.enc (len := len) (size := size)) (KeepTwo bn bs) Pc.all (fun _ => True) len w := fun l J Jx W hW _ _ hY h0 =>
  blocks1_in n l bn bs len size hn1 hlen hs1 hs0 J Jx hY W ((hW.cell (p := ⟨bn, 0, none⟩) hbn).trans hn) ((hW.cell (p := ⟨bs, 0, none⟩) hbs).trans hs) h0

set_option maxHeartbeats 1000000 in
theorem blocks_any (a b : Int) (w : World) : Calls Try.prog 52 #[.int .i64 a, .int .i64 b] w fun e w' =>
    e = .returned (.func (.func 76) #[] #[.pointer (some ⟨w.heap.size, 0, none⟩), .pointer (some ⟨w.heap.size + 1, 0, none⟩)]) ∧ w' = (w.alloc (.cells #[.int .i64 a] 3)).alloc (.cells #[.int .i64 b] 3) := by
  go_enter Try.func52, Try.ntmps52
  go_wp2
  go_ret
  exact ⟨rfl, rfl⟩
end Go.Proofs.Ytnofckgnnpmiiaa
