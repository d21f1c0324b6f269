/- 'apart' of lists that lie each in memory of its own: true. -/
import Derived.Test.YtnofckgnnpmiiaaAq
import Derived.Deep.Cut
namespace Go.Proofs.Ytnofckgnnpmiiaa
open Go.RowKit Go.Shelf
attribute [local go_sem ↓] Go.wp_at_zero Go.wp_at_succ

theorem set_take {α : Type} (l : List α) (k : Nat) (x : α) (h : k < l.length) : (l.set k x).take (k + 1) = l.take k ++ [x] := by
  rw [List.take_succ_eq_append_getElem (by simpa using h), List.getElem_set_self, List.take_set_of_le (Nat.le_refl _)]
theorem mkL_is {l : List Item} {j m : Nat} (h : l.take m = mkL j m) (hl : l.length = m) : l = mkL j m := by
  rw [← h, List.take_of_length_le (by omega)]

structure Ap1 (w : World) (n bs : Nat) (A : Nat → Option Addr) (C Lg : Nat → Nat) (i k : Nat) (wr : World) (G : Nat → List Item) : Prop where
  fam : Fam wr n bs A C G
  len : ∀ j, j < n → (G j).length = Lg j
  done : ∀ j, j < i → G j = mkL j (Lg j)
  now : (G i).take k = mkL i k
  keep : Keep (FamB n A C) w wr
theorem Ap1.next {w : World} {n bs : Nat} {A : Nat → Option Addr} {C Lg : Nat → Nat} {i k b o : Nat} {wr : World} {G : Nat → List Item} (h : Ap1 w n bs A C Lg i k wr G) (hi : i < n) (hk : k < Lg i) (hA : A i = some ⟨b, o, none⟩) :
    Ap1 w n bs A C Lg i (k + 1) (wr.setCells b (o + k * 2) (EI.cells ((i : Int), 100000 + (k : Int)))) (fun j => if j = i then (G i).set k ((i : Int), 100000 + (k : Int)) else G j) := by
  have hlen := h.len i hi
  have hO := h.fam.ow i hi
  rw [hA] at hO
  have hc : 0 < C i := by have := hO.sl.le; omega
  have hp := hO.put (i := k) (by omega) ((i : Int), 100000 + (k : Int))
  have hK : Keep (AtB (A i)) wr (wr.setCells b (o + k * 2) (EI.cells ((i : Int), 100000 + (k : Int)))) := (Keep.refl _ wr).setCells _ _ (fun _ => ⟨_, hA, rfl⟩)
  rw [← hA] at hp
  refine ⟨h.fam.turn hi hc hK hp, fun j hj => ?_, fun j hj => ?_, ?_, h.keep.trans hK (fun k' _ hk' => ⟨i, hi, hc, hk'⟩)⟩
  · by_cases e : j = i
    · subst e; simp only [if_true, List.length_set]; exact hlen
    · simp only [e, if_false]; exact h.len j hj
  · rw [if_neg (by omega)]; exact h.done j hj
  · rw [if_pos rfl, set_take _ _ _ (by omega), h.now, mkL_succ]

structure Ap2 (w : World) (n bs : Nat) (A : Nat → Option Addr) (C Lg : Nat → Nat) (wr : World) : Prop where
  fam : Fam wr n bs A C (fun j => mkL j (Lg j))
  keep : Keep (FamB n A C) w wr
/-- while the i-th is grown -/
structure Ap3 (w : World) (n bs : Nat) (A : Nat → Option Addr) (C Lg : Nat → Nat) (i : Nat) (wr : World) (Ag : Option Addr) (ng cg : Nat) (gs : List Item) : Prop where
  ap : Ap2 w n bs A C Lg wr
  ow : Ow EI wr Ag cg gs
  len : gs.length = ng
  at_ : (Ag = A i ∧ cg = C i ∧ Lg i ≤ ng ∧ gs.take (Lg i) = mkL i (Lg i)) ∨ ∀ a, Ag = some a → w.heap.size ≤ a.block
theorem Ap3.next {w : World} {n bs : Nat} {A : Nat → Option Addr} {C Lg : Nat → Nat} {i : Nat} {wr w1 w2 : World} {Ag A' : Option Addr} {ng cg c' : Nat} {gs : List Item} {x : Item} (h : Ap3 w n bs A C Lg i wr Ag ng cg gs) (hi : i < n) (hbs : bs < w.heap.size)
    (k1 : Keep nob wr w1) (h2 : Appended2 EI w1 Ag cg (gs ++ [x]) A' c' w2) : Ap3 w n bs A C Lg i w2 A' (ng + 1) c' (gs ++ [x]) := by
  have hF1 : Fam w1 n bs A C (fun j => mkL j (Lg j)) := h.ap.fam.keep k1 (fun _ _ h => h)
  have hw1 : Keep (FamB n A C) w w1 := h.ap.keep.trans k1 (fun _ _ h => h.elim)
  rcases h2.where_ with ⟨rfl, rfl, hc, hk⟩ | ⟨hn, hlt, hk⟩
  · rcases h.at_ with ⟨rfl, rfl, hl, ht⟩ | hf
    · have hte : (gs ++ [x]).take (Lg i) = mkL i (Lg i) := by rw [List.take_append_of_le_length (by rw [h.len]; exact hl), ht]
      refine ⟨⟨(hF1.turn hi hc hk (by have := h2.ow.take (Lg i); rwa [hte] at this)).congr (fun j _ => ?_), hw1.trans hk (fun k' _ hk' => ⟨i, hi, hc, hk'⟩)⟩, h2.ow, by simp [h.len], .inl ⟨rfl, rfl, by omega, hte⟩⟩
      by_cases e : j = i
      · subst e; simp
      · simp [e]
    · exact ⟨⟨hF1.keep hk (fun b hb ⟨a, ha, e⟩ => by have := hf a ha; omega), hw1.trans hk (fun k' hk' ⟨a, ha, e⟩ => by have := hf a ha; omega)⟩, h2.ow, by simp [h.len], .inr hf⟩
  · exact ⟨⟨hF1.keep hk (fun _ _ h => h), hw1.trans hk (fun _ _ h => h.elim)⟩, h2.ow, by simp [h.len], .inr (fun a ha => by rw [hn a ha]; have := hw1.size; omega)⟩

set_option maxRecDepth 100000 in
set_option maxHeartbeats 8000000 in
theorem apart_ok (n bs : Nat) (A : Nat → Option Addr) (C Lg : Nat → Nat) (G : Nat → List Item) (w : World) (hn : n ≤ 1000) (hF : Fam w n bs A C G) (hG : ∀ j, j < n → (G j).length = Lg j) (hB : ∀ j, j < n → Lg j ≤ 1000000000)
    (hcell : ∀ j, j < n → w.cell? ⟨bs, j, none⟩ = some (.slice (A j) (Lg j) (C j))) (hbs : bs < w.heap.size) :
    Calls Try.prog 19 #[.slice (some ⟨bs, 0, none⟩) n n] w (fun e w' => e = .returned (.bool true) ∧ Keep (FamB n A C) w w') := by
  have HCL : Hid (∀ j, j < n → w.cell? ⟨bs, j, none⟩ = some (.slice (A j) (Lg j) (C j))) := hcell
  have HBS := Lib.hid hbs
  have HBD := Lib.hid hB
  have HNB : Hid (¬ FamB n A C bs) := fun ⟨j, hj, hc, a, ha, e⟩ => by have := hF.lt j hj hc a ha; omega
  have H1 : Hid (Ap1 w n bs A C Lg 0 0 w G) := ⟨hF, hG, fun j hj => by omega, by simp [mkL], Keep.refl _ _⟩
  have HLC : Hid (∀ j, j < n → Lg j ≤ C j ∧ C j ≤ 9223372036854775807) := fun j hj => ⟨by have := (hF.ow j hj).sl.le; rw [hG j hj] at this; exact this, (hF.ow j hj).sl.cap⟩
  clear hcell hF hG hB hbs
  have hnI : (n : Int) ≤ 1000 := by omega
  go_enter Try.func19, Try.ntmps19
  go_wp2_with (fail)
  go_loopw [3, 4] (fun u3 u4 wr => ∃ i G, i ≤ n ∧ u3 = .int .i64 (i : Int) ∧ Hid (Ap1 w n bs A C Lg i 0 wr G)) (fun u3 _ _ => ((n : Int) - intOf u3).toNat)
  case atStart => exact ⟨0, G, Nat.zero_le _, rfl, H1⟩
  case round =>
    clear H1 G
    obtain ⟨i, G, hi, rfl, HA⟩ := hrel
    by_cases hlt : i < n
    · obtain ⟨wo, rfl⟩ : ∃ wo : World, wo = wr := ⟨_, rfl⟩
      have hil : (i : Int) < (n : Int) := by omega
      have hi0 : (0 : Int) ≤ (i : Int) := by omega
      go_wp2_with (fail)
      go_loopw [4] (fun u4 wr => ∃ k G, k ≤ Lg i ∧ u4 = .int .i64 (k : Int) ∧ Hid (Ap1 w n bs A C Lg i k wr G)) (fun u4 _ => ((Lg i : Int) - intOf u4).toNat)
      case atStart => exact ⟨0, G, Nat.zero_le _, rfl, HA⟩
      case round =>
        clear HA G
        obtain ⟨k, G, hk, rfl, HK⟩ := hrel
        have hsl : wr.cell? ⟨bs, i, none⟩ = some (.slice (A i) (Lg i) (C i)) := HK.out.keep.cell (HCL.out i hlt) HNB.out
        have hLi : (Lg i : Int) ≤ 1000000000 := by have := HBD.out i hlt; omega
        by_cases hlt2 : k < Lg i
        · have HLCi := Lib.hid (HLC.out i hlt)
          have hO := HK.out.fam.ow i hlt
          obtain ⟨b1, o1, hA, hth⟩ := hO.room (by have := HLCi.out; omega)
          have ht : wr.there b1 (o1 + k * 2) 2 := there_sub hth (by omega) (by have := HLCi.out; simp only [EI]; omega)
          have HN := Lib.hid (HK.out.next hlt hlt2 hA)
          have hlc := HLCi.out.1
          have hcc := HLCi.out.2
          rw [hA] at hsl
          clear hO hth
          have hk0 : (0 : Int) ≤ (k : Int) := by omega
          generalize hLg : Lg i = Li at *
          generalize hCi : C i = Ci at *
          have hkl : (k : Int) < (Li : Int) := by omega
          have HLg := Lib.hid hLg
          have HCi := Lib.hid hCi
          clear hLg hCi
          go_wp2_with (refine wpList_store_mid rfl 27 _ _ rfl b1 (o1 + k * 2) #[.int .i64 (i : Int), .int .i64 (100000 + (k : Int))] rfl rfl ht (by kernel_rfl) (all_oneCell_toArray (EI.one ((i : Int), 100000 + (k : Int)))) ?_; simp only [Act.put])
          exact ⟨⟨k + 1, _, hlt2, by go_num, HN⟩, by simp [intOf]; omega⟩
        · have hkL : k = Lg i := by omega
          generalize hLg : Lg i = Li at *
          have HLg := Lib.hid hLg
          clear hLg
          subst hkL
          go_wp2_with (fail)
          go_roundw
          case rel =>
            refine ⟨i + 1, G, hlt, by go_num, HK.out.fam, HK.out.len, fun j hj => ?_, by simp [mkL], HK.out.keep⟩
            by_cases e : j = i
            · subst e
              refine mkL_is ?_ (HK.out.len j hlt)
              rw [HLg.out]
              exact HK.out.now
            · exact HK.out.done j (by omega)
          case measure => simp [intOf]; omega
    · have hin : i = n := by omega
      subst hin
      have H2 : Hid (Ap2 w i bs A C Lg wr) := ⟨HA.out.fam.congr HA.out.done, HA.out.keep⟩
      clear HA
      obtain ⟨w1, HW1⟩ : ∃ w1, Hid (wr = w1) := ⟨_, Lib.hid rfl⟩
      rw [HW1.out] at H2 ⊢
      clear HW1
      clear wr
      go_wp2_with (fail)
      go_loopw [5, 6, 7] (fun u5 u6 u7 wr => ∃ j, j ≤ i ∧ u5 = .int .i64 (j : Int) ∧ Hid (Ap2 w i bs A C Lg wr)) (fun u5 _ _ _ => ((i : Int) - intOf u5).toNat)
      case atStart => exact ⟨0, Nat.zero_le _, rfl, H2⟩
      case round =>
        clear H2
        obtain ⟨j, hj, rfl, HP⟩ := hrel
        by_cases hlj : j < i
        · obtain ⟨wo, rfl⟩ : ∃ wo : World, wo = wr := ⟨_, rfl⟩
          have hjl : (j : Int) < (i : Int) := by omega
          have hj0 : (0 : Int) ≤ (j : Int) := by omega
          have hsl : wo.cell? ⟨bs, j, none⟩ = some (.slice (A j) (Lg j) (C j)) := HP.out.keep.cell (HCL.out j hlj) HNB.out
          have HLCj := Lib.hid (HLC.out j hlj)
          have HLj := Lib.hid (HBD.out j hlj)
          have hcc : ((C j : Int) ≤ 9223372036854775807) := by have := HLCj.out; omega
          have hlc : (Lg j : Int) ≤ (C j : Int) := by have := HLCj.out; omega
          have H3 : Hid (Ap3 w i bs A C Lg j wo (A j) (Lg j) (C j) (mkL j (Lg j))) := ⟨HP.out, HP.out.fam.ow j hlj, mkL_len _ _, .inl ⟨rfl, rfl, Nat.le_refl _, by rw [List.take_of_length_le (by rw [mkL_len]; exact Nat.le_refl _)]⟩⟩
          generalize hLg : Lg j = Li at *
          generalize hCi : C j = Ci at *
          have HLg := Lib.hid hLg
          have HCi := Lib.hid hCi
          clear hLg hCi
          go_wp2_with (fail)
          go_loopw [6, 7] (fun u6 u7 wr => ∃ (Ag : Option Addr) (ng cg : Nat) (gs : List Item) (m : Int), u6 = .slice Ag ng cg ∧ u7 = .int .i64 m ∧ (ng : Int) + m = (Ci : Int) ∧ -1 ≤ m ∧ Li ≤ ng ∧ (ng = Li ∨ (Ci : Int) - (Li : Int) < 4096) ∧ Hid (Ap3 w i bs A C Lg j wr Ag ng cg gs)) (fun _ u7 _ => (intOf u7 + 1).toNat)
          case atStart => exact ⟨_, _, _, _, _, rfl, rfl, by omega, by omega, Nat.le_refl _, .inl rfl, H3⟩
          case round =>
            clear H3
            obtain ⟨Ag, ng, cg, gs, m, rfl, rfl, hsum, hm1, hlg, hor, HG3⟩ := hrel
            have hL9 := HLj.out
            by_cases hm : 0 ≤ m ∧ m < 4096
            · obtain ⟨hm0, hm2⟩ := hm
              have hngI : (ng : Int) ≤ 9223372036854775807 := by omega
              have hor2 : (Ci : Int) - (Li : Int) < 4096 := by rcases hor with h | h <;> omega
              have hb : (ng + 1) * 16 ≤ 140737488355328 := by omega
              obtain ⟨w3, HW3⟩ : ∃ w3, Hid (w3 = wr.alloc (.cells #[.int .i64 (-5), .int .i64 (j : Int)] 27)) := ⟨_, Lib.hid rfl⟩
              have HK3 : Hid (Keep nob wr w3) := by rw [HW3.out]; exact (Keep.refl _ wr).alloc _
              have HS3 : Hid (Sl EI w3 (some ⟨wr.heap.size, 0, none⟩) 1 [((-5, (j : Int)) : Item)]) := by rw [HW3.out]; exact Sl.one EI wr _ _ 27 rfl
              have HO3 : Hid (Ow EI w3 Ag cg gs) := HG3.out.ow.keep HK3.out (nobIn _)
              have HE3 := Lib.hid HW3.out.symm
              go_wp2_with (at_builtin; rw [HE3.out]; refine wpList_append_two EI rfl _ _ 22 rfl 27 _ 16 Try.underlying22 info27 rfl Ag ng cg rfl gs HG3.out.len HO3.out (some ⟨wr.heap.size, 0, none⟩) 1 1 rfl [((-5, (j : Int)) : Item)] rfl HS3.out (by decide) hb (by omega) ?_; intro A' c' w4 hap; have HAP := Lib.hid hap; clear hap)
              have HG4 := Lib.hid (HG3.out.next hlj HBS.out HK3.out HAP.out)
              clear HAP HO3 HS3 HK3 HE3 HW3 HG3
              go_wp2_with (fail)
              exact ⟨⟨_, _, _, _, _, rfl, rfl, by omega, by omega, by omega, .inr hor2, HG4⟩, by simp [intOf]; omega⟩
            · by_cases hm0 : 0 ≤ m
              · have hm2 : ¬ (m < 4096) := fun h => hm ⟨hm0, h⟩
                have hd1 : decide (m < 4096) = false := decide_eq_false hm2
                go_wp2_with (fail)
                go_roundw
                case rel => exact ⟨j + 1, hlj, by go_num, HG3.out.ap⟩
                case measure => simp [intOf]; omega
              · have hd1 : decide (0 ≤ m) = false := decide_eq_false hm0
                go_wp2_with (fail)
                go_roundw
                case rel => exact ⟨j + 1, hlj, by go_num, HG3.out.ap⟩
                case measure => simp [intOf]; omega
        · have hji : j = i := by omega
          subst hji
          obtain ⟨w1, HW1⟩ : ∃ w1, Hid (wr = w1) := ⟨_, Lib.hid rfl⟩
          rw [HW1.out] at HP ⊢
          clear HW1
          clear wr
          go_wp2_with (fail)
          go_loopw [8, 9] (fun u8 u9 wr => ∃ i, i ≤ j ∧ u8 = .int .i64 (i : Int) ∧ Hid (Ap2 w j bs A C Lg wr)) (fun u8 _ _ => ((j : Int) - intOf u8).toNat)
          case atStart => exact ⟨0, Nat.zero_le _, rfl, HP⟩
          case round =>
            clear HP
            obtain ⟨i, hi, rfl, HP⟩ := hrel
            by_cases hlt3 : i < j
            · obtain ⟨wo, rfl⟩ : ∃ wo : World, wo = wr := ⟨_, rfl⟩
              have hil : (i : Int) < (j : Int) := by omega
              have hi0 : (0 : Int) ≤ (i : Int) := by omega
              go_wp2_with (fail)
              go_loopw [9] (fun u9 wr => ∃ k, k ≤ Lg i ∧ u9 = .int .i64 (k : Int) ∧ Hid (Ap2 w j bs A C Lg wr)) (fun u9 _ => ((Lg i : Int) - intOf u9).toNat)
              case atStart => exact ⟨0, Nat.zero_le _, rfl, HP⟩
              case round =>
                clear HP
                obtain ⟨k, hk, rfl, HP⟩ := hrel
                have hsl : wr.cell? ⟨bs, i, none⟩ = some (.slice (A i) (Lg i) (C i)) := HP.out.keep.cell (HCL.out i hlt3) HNB.out
                have hLi : (Lg i : Int) ≤ 1000000000 := by have := HBD.out i hlt3; omega
                have HLCi := Lib.hid (HLC.out i hlt3)
                have hlc := HLCi.out.1
                have hcc := HLCi.out.2
                by_cases hlt4 : k < Lg i
                · obtain ⟨b1, o1, hA, hy⟩ := (HP.out.fam.ow i hlt3).sl.elem (i := k) (by rw [mkL_len]; exact hlt4)
                  have hge : (mkL i (Lg i))[k]'(by rw [mkL_len]; exact hlt4) = ((i : Int), 100000 + (k : Int)) := (List.getElem?_eq_some_iff.1 (mkL_get i (Lg i) k hlt4)).2
                  rw [hge] at hy
                  have hy1 := hy 0 _ rfl
                  have hy2 := hy 1 _ rfl
                  simp only [EI, Nat.add_zero] at hy1 hy2
                  rw [hA] at hsl
                  clear hy hge
                  have hk0 : (0 : Int) ≤ (k : Int) := by omega
                  generalize hLg : Lg i = Li at *
                  generalize hCi : C i = Ci at *
                  have hkl : (k : Int) < (Li : Int) := by omega
                  have HLg := Lib.hid hLg
                  have HCi := Lib.hid hCi
                  clear hLg hCi
                  have hne : ∀ w, (binOp .neq 27 (.agg #[.int .i64 (i : Int), .int .i64 (100000 + (k : Int))]) (.agg #[.int .i64 (i : Int), .int .i64 (100000 + (k : Int))])).run Try.prog w = .ok (.bool false) w := fun w => by rw [run_neq_items ((i : Int), 100000 + (k : Int)) ((i : Int), 100000 + (k : Int)) w]; simp
                  go_wp2_with (fail)
                  exact ⟨⟨k + 1, hlt4, by go_num, HP⟩, by simp [intOf]; omega⟩
                · have hkL : k = Lg i := by omega
                  generalize hLg : Lg i = Li at *
                  have HLg := Lib.hid hLg
                  clear hLg
                  subst hkL
                  go_wp2_with (fail)
                  go_roundw
                  case rel => exact ⟨i + 1, hlt3, by go_num, HP⟩
                  case measure => simp [intOf]; omega
            · have hij : i = j := by omega
              subst hij
              go_wp2_with (fail)
              go_ret
              exact ⟨rfl, HP.out.keep⟩
end Go.Proofs.Ytnofckgnnpmiiaa
