/- errors.Is at the package's errors. -/
import Derived.WalkKit
import Derived.LaidEql
import Derived.Stop.Asserts
import Derived.RowKitTokens
import Derived.Test.YticnefkdkkjgcaaGreatDoorPa3
namespace Go.Proofs.YticnefkdkkjgcaaGreatDoor
open Go.RowKit Go.Extern.Stop Go.Stop Go.Extern Go.Extern.Rtype

theorem isTypeOf (v : Value) (w : World) : (Extern.ReflectliteType.typeOf #[.iface 260 v]).run Tryz.prog w = .ok (.iface 194 (.agg #[.pointer (some ⟨22, 260, none⟩)])) w := by kernel_rfl
theorem isMethodComparable (v : Value) (w : World) : (Go.method 391 194 v "Comparable").run Tryz.prog w = .ok (195, v) w := by kernel_rfl
theorem isComparable (w : World) : ((Extern.ReflectliteType.method fun t => do noPackHeld "Comparable" t; pure (.bool (← typeInfo t).comparable)) #[.agg #[.pointer (some ⟨22, 260, none⟩)]]).run Tryz.prog w = .ok (.bool true) w := by kernel_rfl
theorem callComparable (w : World) : (callFunc 195 #[.agg #[.pointer (some ⟨22, 260, none⟩)]]).run Tryz.prog w = .ok (.value (.bool true)) w := by
  rw [@run_callFunc_extern Tryz.prog 195 _ (Extern.ReflectliteType.method fun t => do noPackHeld "Comparable" t; pure (.bool (← typeInfo t).comparable)) Tryz.func195 (by kernel_rfl) (by kernel_rfl) (by kernel_rfl) (by kernel_rfl), isComparable]
  rfl
theorem isComp : (Tryz.prog.info? 260).map (·.comparable) = some true := by kernel_rfl
theorem isSize : (Tryz.prog.info? 280).map (·.size) = some 1 := by kernel_rfl
theorem noIsE (v : Value) (xT : TypeId) (w : World) : (Instr.typeAssert (.iface 260 v) xT 206 true).run Tryz.prog w = .ok (.tuple #[.nilIface, .bool false]) w := run_typeAssert_lacksB Tryz.underlying206 (by kernel_rfl) (by kernel_rfl) v xT w
theorem noUnwrapE (v : Value) (xT : TypeId) (w : World) : (Instr.typeAssert (.iface 260 v) xT 201 true).run Tryz.prog w = .ok (.tuple #[.nilIface, .bool false]) w := run_typeAssert_lacksB Tryz.underlying201 (by kernel_rfl) (by kernel_rfl) v xT w
theorem noUnwrapsE (v : Value) (xT : TypeId) (w : World) : (Instr.typeAssert (.iface 260 v) xT 203 true).run Tryz.prog w = .ok (.tuple #[.nilIface, .bool false]) w := run_typeAssert_lacksB Tryz.underlying203 (by kernel_rfl) (by kernel_rfl) v xT w
theorem noIsW (v : Value) (xT : TypeId) (w : World) : (Instr.typeAssert (.iface 73 v) xT 206 true).run Tryz.prog w = .ok (.tuple #[.nilIface, .bool false]) w := run_typeAssert_lacksB Tryz.underlying206 (by kernel_rfl) (by kernel_rfl) v xT w
theorem hasUnwrapW (v : Value) (xT : TypeId) (w : World) : (Instr.typeAssert (.iface 73 v) xT 201 true).run Tryz.prog w = .ok (.tuple #[.iface 73 v, .bool true]) w := run_typeAssert_hasB Tryz.underlying201 (by kernel_rfl) v xT w
theorem methodUnwrap (v : Value) (w : World) : (Go.method 391 73 v "Unwrap").run Tryz.prog w = .ok (183, v) w := by kernel_rfl
theorem unwrap_ok (pb : Nat) (v : Value) (w : World) (h : w.cell? ⟨pb, 0, none⟩ = some v) : Calls Tryz.prog 183 #[.pointer (some ⟨pb, 0, none⟩)] w fun e w' => e = .returned v ∧ w' = w := by
  go_enter Tryz.func183, Tryz.ntmps183
  go_wp2
  go_ret
  exact ⟨rfl, rfl⟩
set_option maxRecDepth 100000 in
theorem is_same_is (a : Addr) (w : World) : Calls Tryz.prog 82 #[.iface 260 (.pointer (some a)), .iface 260 (.pointer (some a)), .bool true] w fun e w' => e = .returned (.bool true) ∧ w' = w := by
  obtain ⟨i, hi, hcmp⟩ := Option.map_eq_some_iff.1 isComp
  obtain ⟨j, hj, hjs⟩ := Option.map_eq_some_iff.1 isSize
  have nE := noIsE
  have uE := noUnwrapE
  have vE := noUnwrapsE
  have nW := noIsW
  have uW := hasUnwrapW
  have mU := methodUnwrap
  have heq := run_eql_iface_ptr_same (P := Tryz.prog) w a Tryz.underlying42 Tryz.underlying260 hi hcmp hj
  go_enter Tryz.func82, Tryz.ntmps82
  go_wp2
  refine wp_loop_rounds 1 ?_
  rw [rounds_succ]
  go_wp2_with (fail)
  go_ret
  exact ⟨rfl, rfl⟩
set_option maxRecDepth 100000 in
/-- errors.Is: x, x -/
theorem is_same (a : Addr) (w : World) : Calls Tryz.prog 49 #[.iface 260 (.pointer (some a)), .iface 260 (.pointer (some a))] w fun e w' => e = .returned (.bool true) ∧ w' = w := by
  have HIS := Lib.hid (is_same_is a w)
  obtain ⟨i, hi, hcmp⟩ := Option.map_eq_some_iff.1 isComp
  obtain ⟨j, hj, hjs⟩ := Option.map_eq_some_iff.1 isSize
  have h8 := @run_callFunc_extern Tryz.prog 81 _ Extern.ReflectliteType.typeOf Tryz.func81 (by kernel_rfl) (by kernel_rfl) (by kernel_rfl) (by kernel_rfl)
  have tT := isTypeOf
  have cC := callComparable
  have mR := isMethodComparable
  go_enter Tryz.func49, Tryz.ntmps49
  go_wp2_with (go_at_call 82; go_must (refine (HIS.out).mono ?_); rintro e w1 ⟨rfl, rfl⟩)
  go_ret
  exact ⟨rfl, rfl⟩
set_option maxRecDepth 100000 in
theorem is_other_is (a b : Addr) (ca cb : Array Value) (ta tb : TypeId) (w : World) (hne : a ≠ b) (ha : w.heap[a.block]? = some (.cells ca ta (0, 0))) (hb : w.heap[b.block]? = some (.cells cb tb (0, 0))) : Calls Tryz.prog 82 #[.iface 260 (.pointer (some a)), .iface 260 (.pointer (some b)), .bool true] w fun e w' => e = .returned (.bool false) ∧ w' = w := by
  obtain ⟨i, hi, hcmp⟩ := Option.map_eq_some_iff.1 isComp
  obtain ⟨j, hj, hjs⟩ := Option.map_eq_some_iff.1 isSize
  have nE := noIsE
  have uE := noUnwrapE
  have vE := noUnwrapsE
  have nW := noIsW
  have uW := hasUnwrapW
  have mU := methodUnwrap
  have heq := run_eql_iface_ptr_other (P := Tryz.prog) w Tryz.underlying42 Tryz.underlying260 hi hcmp hj (by rw [hjs]; decide) hne ha hb
  go_enter Tryz.func82, Tryz.ntmps82
  go_wp2
  refine wp_loop_rounds 1 ?_
  rw [rounds_succ]
  go_wp2_with (fail)
  go_ret
  exact ⟨rfl, rfl⟩
set_option maxRecDepth 100000 in
/-- errors.Is: two sentinels -/
theorem is_other (a b : Addr) (ca cb : Array Value) (ta tb : TypeId) (w : World) (hne : a ≠ b) (ha : w.heap[a.block]? = some (.cells ca ta (0, 0))) (hb : w.heap[b.block]? = some (.cells cb tb (0, 0))) : Calls Tryz.prog 49 #[.iface 260 (.pointer (some a)), .iface 260 (.pointer (some b))] w fun e w' => e = .returned (.bool false) ∧ w' = w := by
  have HIS := Lib.hid (is_other_is a b ca cb ta tb w hne ha hb)
  obtain ⟨i, hi, hcmp⟩ := Option.map_eq_some_iff.1 isComp
  obtain ⟨j, hj, hjs⟩ := Option.map_eq_some_iff.1 isSize
  have h8 := @run_callFunc_extern Tryz.prog 81 _ Extern.ReflectliteType.typeOf Tryz.func81 (by kernel_rfl) (by kernel_rfl) (by kernel_rfl) (by kernel_rfl)
  have tT := isTypeOf
  have cC := callComparable
  have mR := isMethodComparable
  go_enter Tryz.func49, Tryz.ntmps49
  go_wp2_with (go_at_call 82; go_must (refine (HIS.out).mono ?_); rintro e w1 ⟨rfl, rfl⟩)
  go_ret
  exact ⟨rfl, rfl⟩
set_option maxRecDepth 100000 in
theorem is_fault_same_is (pb : Nat) (b : Addr) (w : World) (h1 : w.cell? ⟨pb, 0, none⟩ = some (.iface 260 (.pointer (some b)))) : Calls Tryz.prog 82 #[.iface 73 (.pointer (some ⟨pb, 0, none⟩)), .iface 260 (.pointer (some b)), .bool true] w fun e w' => e = .returned (.bool true) ∧ w' = w := by
  obtain ⟨i, hi, hcmp⟩ := Option.map_eq_some_iff.1 isComp
  obtain ⟨j, hj, hjs⟩ := Option.map_eq_some_iff.1 isSize
  have nE := noIsE
  have uE := noUnwrapE
  have vE := noUnwrapsE
  have nW := noIsW
  have uW := hasUnwrapW
  have mU := methodUnwrap
  have heq := run_eql_iface_ptr_same (P := Tryz.prog) w b Tryz.underlying42 Tryz.underlying260 hi hcmp hj
  have hty := run_eql_iface_types (P := Tryz.prog) 73 260 (.pointer (some ⟨pb, 0, none⟩)) (.pointer (some b)) Tryz.underlying42 (by decide) w
  go_enter Tryz.func82, Tryz.ntmps82
  go_wp2
  refine wp_loop_rounds 2 ?_
  rw [rounds_succ]
  go_wp2_with (go_at_call 183; go_must (refine (unwrap_ok pb _ _ h1).mono ?_); rintro e w1 ⟨rfl, rfl⟩)
  rw [rounds_succ]
  go_wp2_with (fail)
  go_ret
  exact ⟨rfl, rfl⟩
set_option maxRecDepth 100000 in
/-- errors.Is: a fault that wraps x -/
theorem is_fault_same (pb : Nat) (b : Addr) (w : World) (h1 : w.cell? ⟨pb, 0, none⟩ = some (.iface 260 (.pointer (some b)))) : Calls Tryz.prog 49 #[.iface 73 (.pointer (some ⟨pb, 0, none⟩)), .iface 260 (.pointer (some b))] w fun e w' => e = .returned (.bool true) ∧ w' = w := by
  have HIS := Lib.hid (is_fault_same_is pb b w h1)
  obtain ⟨i, hi, hcmp⟩ := Option.map_eq_some_iff.1 isComp
  obtain ⟨j, hj, hjs⟩ := Option.map_eq_some_iff.1 isSize
  have h8 := @run_callFunc_extern Tryz.prog 81 _ Extern.ReflectliteType.typeOf Tryz.func81 (by kernel_rfl) (by kernel_rfl) (by kernel_rfl) (by kernel_rfl)
  have tT := isTypeOf
  have cC := callComparable
  have mR := isMethodComparable
  go_enter Tryz.func49, Tryz.ntmps49
  go_wp2_with (go_at_call 82; go_must (refine (HIS.out).mono ?_); rintro e w1 ⟨rfl, rfl⟩)
  go_ret
  exact ⟨rfl, rfl⟩
set_option maxRecDepth 100000 in
theorem is_fault_other_is (pb : Nat) (a b : Addr) (ca cb : Array Value) (ta tb : TypeId) (w : World) (h1 : w.cell? ⟨pb, 0, none⟩ = some (.iface 260 (.pointer (some a)))) (hne : a ≠ b) (ha : w.heap[a.block]? = some (.cells ca ta (0, 0))) (hb : w.heap[b.block]? = some (.cells cb tb (0, 0))) : Calls Tryz.prog 82 #[.iface 73 (.pointer (some ⟨pb, 0, none⟩)), .iface 260 (.pointer (some b)), .bool true] w fun e w' => e = .returned (.bool false) ∧ w' = w := by
  obtain ⟨i, hi, hcmp⟩ := Option.map_eq_some_iff.1 isComp
  obtain ⟨j, hj, hjs⟩ := Option.map_eq_some_iff.1 isSize
  have nE := noIsE
  have uE := noUnwrapE
  have vE := noUnwrapsE
  have nW := noIsW
  have uW := hasUnwrapW
  have mU := methodUnwrap
  have heq := run_eql_iface_ptr_other (P := Tryz.prog) w Tryz.underlying42 Tryz.underlying260 hi hcmp hj (by rw [hjs]; decide) hne ha hb
  have hty := run_eql_iface_types (P := Tryz.prog) 73 260 (.pointer (some ⟨pb, 0, none⟩)) (.pointer (some b)) Tryz.underlying42 (by decide) w
  go_enter Tryz.func82, Tryz.ntmps82
  go_wp2
  refine wp_loop_rounds 2 ?_
  rw [rounds_succ]
  go_wp2_with (go_at_call 183; go_must (refine (unwrap_ok pb _ _ h1).mono ?_); rintro e w1 ⟨rfl, rfl⟩)
  rw [rounds_succ]
  go_wp2_with (fail)
  go_ret
  exact ⟨rfl, rfl⟩
set_option maxRecDepth 100000 in
/-- errors.Is: a fault that wraps another -/
theorem is_fault_other (pb : Nat) (a b : Addr) (ca cb : Array Value) (ta tb : TypeId) (w : World) (h1 : w.cell? ⟨pb, 0, none⟩ = some (.iface 260 (.pointer (some a)))) (hne : a ≠ b) (ha : w.heap[a.block]? = some (.cells ca ta (0, 0))) (hb : w.heap[b.block]? = some (.cells cb tb (0, 0))) : Calls Tryz.prog 49 #[.iface 73 (.pointer (some ⟨pb, 0, none⟩)), .iface 260 (.pointer (some b))] w fun e w' => e = .returned (.bool false) ∧ w' = w := by
  have HIS := Lib.hid (is_fault_other_is pb a b ca cb ta tb w h1 hne ha hb)
  obtain ⟨i, hi, hcmp⟩ := Option.map_eq_some_iff.1 isComp
  obtain ⟨j, hj, hjs⟩ := Option.map_eq_some_iff.1 isSize
  have h8 := @run_callFunc_extern Tryz.prog 81 _ Extern.ReflectliteType.typeOf Tryz.func81 (by kernel_rfl) (by kernel_rfl) (by kernel_rfl) (by kernel_rfl)
  have tT := isTypeOf
  have cC := callComparable
  have mR := isMethodComparable
  go_enter Tryz.func49, Tryz.ntmps49
  go_wp2_with (go_at_call 82; go_must (refine (HIS.out).mono ?_); rintro e w1 ⟨rfl, rfl⟩)
  go_ret
  exact ⟨rfl, rfl⟩
end Go.Proofs.YticnefkdkkjgcaaGreatDoor

/- The number of an error. -/
namespace Go.Proofs.YticnefkdkkjgcaaGreatDoor
open Go.RowKit

set_option maxRecDepth 100000 in
theorem code_gen (T : TypeId) (v : Value) (c : Nat) (h1 : 1 ≤ c) (h11 : c ≤ 11) (B : Nat) (sa : Nat → Addr) (w : World) (g : GL B sa w)
    (HI : ∀ W, Keep nob w W → ∀ k, 1 ≤ k → k ≤ 11 → Calls Tryz.prog 49 #[.iface T v, sent sa k] W (fun e w' => e = .returned (.bool (decide (k = c))) ∧ w' = W)) :
    Calls Tryz.prog 20 #[.iface T v] w fun e w' => e = .returned (.int .i64 (c : Int)) ∧ Keep nob w w' := by
  have e1 := g.err 1 (by decide) (by decide)
  have e2 := g.err 2 (by decide) (by decide)
  have e3 := g.err 3 (by decide) (by decide)
  have e4 := g.err 4 (by decide) (by decide)
  have e5 := g.err 5 (by decide) (by decide)
  have e6 := g.err 6 (by decide) (by decide)
  have e7 := g.err 7 (by decide) (by decide)
  have e8 := g.err 8 (by decide) (by decide)
  have e9 := g.err 9 (by decide) (by decide)
  have e10 := g.err 10 (by decide) (by decide)
  have e11 := g.err 11 (by decide) (by decide)
  simp only [gerr] at e1 e2 e3 e4 e5 e6 e7 e8 e9 e10 e11
  obtain ⟨b3, HB3⟩ : ∃ b3, Hid (w.heap.size = b3) := ⟨_, Lib.hid rfl⟩
  obtain ⟨w3, HW3⟩ : ∃ w3, Hid (w.alloc (.cells #[sent sa 1, sent sa 2, sent sa 3, sent sa 4, sent sa 5, sent sa 6, sent sa 7, sent sa 8, sent sa 9, sent sa 10, sent sa 11] 107) = w3) := ⟨_, Lib.hid rfl⟩
  have HK3 : Hid (Keep nob w w3) := by unfold Hid; rw [← HW3.out]; exact (Keep.refl _ _).alloc _
  have HC3 : Hid (∀ i, i < 11 → w3.cell? ⟨b3, i, none⟩ = some (sent sa (i + 1))) := by
    unfold Hid
    intro i hi
    rw [← HW3.out, ← HB3.out]
    match i, hi with
    | 0, _ => simp
    | 1, _ => simp
    | 2, _ => simp
    | 3, _ => simp
    | 4, _ => simp
    | 5, _ => simp
    | 6, _ => simp
    | 7, _ => simp
    | 8, _ => simp
    | 9, _ => simp
    | 10, _ => simp
  have HII := Lib.hid (HI w3 HK3.out)
  clear HI g
  simp only [sent] at e1 e2 e3 e4 e5 e6 e7 e8 e9 e10 e11 HW3
  go_enter Tryz.func20, Tryz.ntmps20
  go_upto_region 4 with (fail)
  rw [HW3.out, HB3.out]
  clear e1 e2 e3 e4 e5 e6 e7 e8 e9 e10 e11
  go_wp2_with (fail)
  go_loopw [4, 5] (fun u4 u5 wr => ∃ i : Nat, i ≤ 11 ∧ u5 = .int .i64 (i : Int) ∧ u4 = .int .i64 (if c ≤ i then (c : Int) else -1) ∧ Hid (wr = w3)) (fun _ u5 _ => 11 - (intOf u5).toNat)
  case atStart => exact ⟨0, by decide, rfl, by rw [if_neg (by omega)], Lib.hid rfl⟩
  case round =>
    obtain ⟨i, hi, rfl, rfl, HW⟩ := hrel
    have HW2 := HW.out
    subst HW2
    rcases Nat.lt_or_ge i 11 with hlt | hge
    · have hc := HC3.out i hlt
      have hcall := HII.out (i + 1) (by omega) (by omega)
      simp only [sent] at hc hcall
      have d1 : decide ((i : Int) < 11) = true := by rw [decide_eq_true_iff]; omega
      have q0 : (0 : Int) ≤ (i : Int) := by omega
      have q1 : (i : Int) < 11 := by omega
      have j1 : IntKind.i64.wrap ((i : Int) + 1) = (i : Int) + 1 := by rw [IntWalk.i64_left, IntWalk.wrap64_in _ ⟨by omega, by omega⟩]
      have HCL := Lib.hid hcall
      clear hcall
      rcases Nat.lt_trichotomy c (i + 1) with hlc | hec | hgc
      · have dd : decide (i + 1 = c) = false := by rw [decide_eq_false_iff_not]; omega
        rw [dd] at HCL
        rw [if_pos (by omega)]
        go_wp2_with (go_at_call 49; go_must (refine HCL.out.mono ?_); rintro e w1 ⟨rfl, rfl⟩)
        refine ⟨⟨i + 1, hlt, rfl, by rw [if_pos (by omega)], Lib.hid trivial⟩, by simp [intOf]; omega⟩
      · have dd : decide (i + 1 = c) = true := by rw [decide_eq_true_iff]; omega
        rw [dd] at HCL
        rw [if_neg (by omega)]
        go_wp2_with (go_at_call 49; go_must (refine HCL.out.mono ?_); rintro e w1 ⟨rfl, rfl⟩)
        refine ⟨⟨i + 1, hlt, rfl, by rw [if_pos (by omega), hec]; rfl, Lib.hid trivial⟩, by simp [intOf]; omega⟩
      · have dd : decide (i + 1 = c) = false := by rw [decide_eq_false_iff_not]; omega
        rw [dd] at HCL
        rw [if_neg (by omega)]
        go_wp2_with (go_at_call 49; go_must (refine HCL.out.mono ?_); rintro e w1 ⟨rfl, rfl⟩)
        refine ⟨⟨i + 1, hlt, rfl, by rw [if_neg (by omega)], Lib.hid trivial⟩, by simp [intOf]; omega⟩
    · obtain rfl : i = 11 := by omega
      rw [if_pos h11]
      go_wp2_with (fail)
      go_ret
      exact ⟨rfl, HK3.out⟩
theorem is_fault {B : Nat} {sa : Nat → Addr} {W : World} (g : GL B sa W) {pb c : Nat} (hc : 1 ≤ c) (hc11 : c ≤ 11) (h : W.cell? ⟨pb, 0, none⟩ = some (sent sa c)) (k : Nat) (h1 : 1 ≤ k) (h11 : k ≤ 11) :
    Calls Tryz.prog 49 #[.iface 73 (.pointer (some ⟨pb, 0, none⟩)), sent sa k] W (fun e w' => e = .returned (.bool (decide (k = c))) ∧ w' = W) := by
  by_cases hk : k = c
  · subst hk
    rw [decide_eq_true rfl]
    exact is_fault_same pb (sa k) W h
  · rw [decide_eq_false hk]
    obtain ⟨_, ca, ta, ha⟩ := g.sen c hc hc11
    obtain ⟨_, cb, tb, hb⟩ := g.sen k h1 h11
    exact is_fault_other pb (sa c) (sa k) ca cb ta tb W h (fun e => hk (g.inj c k hc hc11 h1 h11 e).symm) ha hb
theorem is_sent {B : Nat} {sa : Nat → Addr} {W : World} (g : GL B sa W) {c : Nat} (hc : 1 ≤ c) (hc11 : c ≤ 11) (k : Nat) (h1 : 1 ≤ k) (h11 : k ≤ 11) :
    Calls Tryz.prog 49 #[sent sa c, sent sa k] W (fun e w' => e = .returned (.bool (decide (k = c))) ∧ w' = W) := by
  by_cases hk : k = c
  · subst hk
    rw [decide_eq_true rfl]
    exact is_same (sa k) W
  · rw [decide_eq_false hk]
    obtain ⟨_, ca, ta, ha⟩ := g.sen c hc hc11
    obtain ⟨_, cb, tb, hb⟩ := g.sen k h1 h11
    exact is_other (sa c) (sa k) ca cb ta tb W (fun e => hk (g.inj c k hc hc11 h1 h11 e).symm) ha hb
/-- an error with a place -/
theorem code_fault {B : Nat} {sa : Nat → Addr} {w : World} (g : GL B sa w) {D : Nat → Prop} {ev : Value} {c p : Nat} (hc : 1 ≤ c) (hc11 : c ≤ 11) (h : FErr sa w D ev c p) : Calls Tryz.prog 20 #[ev] w fun e w' => e = .returned (.int .i64 (c : Int)) ∧ Keep nob w w' := by
  obtain ⟨pb, rfl, _, h2, _, _⟩ := h
  exact code_gen _ _ c hc hc11 B sa w g (fun W k j h1 h11 => is_fault (g.keep k (fun _ h => h.elim)) hc hc11 (k.cell h2 (fun h => h)) j h1 h11)
theorem code_sent {B : Nat} {sa : Nat → Addr} {w : World} (g : GL B sa w) {c : Nat} (hc : 1 ≤ c) (hc11 : c ≤ 11) : Calls Tryz.prog 20 #[sent sa c] w fun e w' => e = .returned (.int .i64 (c : Int)) ∧ Keep nob w w' :=
  code_gen _ _ c hc hc11 B sa w g (fun _ k j h1 h11 => is_sent (g.keep k (fun _ h => h.elim)) hc hc11 j h1 h11)
end Go.Proofs.YticnefkdkkjgcaaGreatDoor

/- errors.As of an error with a place. -/
namespace Go.Proofs.YticnefkdkkjgcaaGreatDoor
open Go.RowKit Go.Extern.Stop Go.Stop Go.Extern

theorem tas_valueOf27 (t : Addr) (w : World) : (ReflectliteValue.unpack (.iface 106 (.pointer (some t)))).run Tryz.prog w
    = .ok (.agg #[.pointer (some ⟨22, 106, none⟩), .pointer (some ⟨w.heap.size, 0, none⟩), .int .u64 150]) (w.alloc (.cells #[.pointer (some t)] 106)) := by kernel_rfl
theorem tas_type27 (a : Addr) (w : World) : (ReflectliteValue.methodAny (ReflectliteValue.valueError "reflectlite.Value.Type" 0) (fun t _ _ _ => ReflectliteType.toType t) #[.agg #[.pointer (some ⟨22, 106, none⟩), .pointer (some a), .int .u64 150]]).run Tryz.prog w
    = .ok (.iface 194 (.agg #[.pointer (some ⟨22, 106, none⟩)])) w := by kernel_rfl
theorem tas_methodKind (h : Value) (w : World) : (Go.method 391 194 (.agg #[h]) "Kind").run Tryz.prog w = .ok (179, h) w := by kernel_rfl
theorem tas_kind27 (w : World) : ((ReflectliteType.abiMethod fun t => (fun a : Nat => Value.int IntKind.u8 (a : Int)) <$> Rtype.kind t) #[.pointer (some ⟨22, 106, none⟩)]).run Tryz.prog w = .ok (.int .u8 22) w := by kernel_rfl
theorem tas_kind25 (w : World) : ((ReflectliteType.abiMethod fun t => (fun a : Nat => Value.int IntKind.u8 (a : Int)) <$> Rtype.kind t) #[.pointer (some ⟨22, 73, none⟩)]).run Tryz.prog w = .ok (.int .u8 22) w := by kernel_rfl


theorem tas_rlm (z : Sem Value) (f : TypeId → Addr → Nat → Nat → Sem Value) (v : Value) :
    ReflectliteValue.method z f #[v] = (do match ← ReflectliteValue.parts v with | none => z | some (t, a, fl) => f t a fl (fl % 32)) := rfl
theorem tas_parts27 (a : Addr) (w : World) : (ReflectliteValue.parts (.agg #[.pointer (some ⟨22, 106, none⟩), .pointer (some a), .int .u64 150])).run Tryz.prog w = .ok (some (106, a, 150)) w := by kernel_rfl
/-- (Value).IsNil at the Value of a **p.E that is not nil. -/
theorem tas_isNil27 (a p : Addr) (W : World) (ha : W.cell? a = some (.pointer (some p))) :
    (ReflectliteValue.method (ReflectliteValue.valueError "reflectlite.Value.IsNil" 0) ReflectliteValue.isNil #[.agg #[.pointer (some ⟨22, 106, none⟩), .pointer (some a), .int .u64 150]]).run Tryz.prog W = .ok (.bool false) W := by
  rw [tas_rlm]
  simp only [Sem.run_bind, tas_parts27, Result.andThen]
  simp [ReflectliteValue.isNil, loadVar, isAgg, underlying, Tryz.underlying106, ha, Result.andThen]

theorem tas_methodElem (h : Value) (w : World) : (Go.method 391 194 (.agg #[h]) "Elem").run Tryz.prog w = .ok (196, .agg #[h]) w := by kernel_rfl
theorem tas_methodImplements (h : Value) (w : World) : (Go.method 391 194 (.agg #[h]) "Implements").run Tryz.prog w = .ok (197, .agg #[h]) w := by kernel_rfl
theorem tas_methodAssignableTo (h : Value) (w : World) : (Go.method 391 194 (.agg #[h]) "AssignableTo").run Tryz.prog w = .ok (194, .agg #[h]) w := by kernel_rfl
theorem tas_elem27 (w : World) : (ReflectliteType.method ReflectliteType.elem #[.agg #[.pointer (some ⟨22, 106, none⟩)]]).run Tryz.prog w = .ok (.iface 194 (.agg #[.pointer (some ⟨22, 73, none⟩)])) w := by kernel_rfl
theorem tas_implements25 (w : World) : (ReflectliteType.relation "Implements" ReflectliteType.implements_ #[.agg #[.pointer (some ⟨22, 73, none⟩)], .iface 194 (.agg #[.pointer (some ⟨22, 42, none⟩)])]).run Tryz.prog w = .ok (.bool true) w := by kernel_rfl
theorem tas_typeOf25 (v : Value) (w : World) : (ReflectliteType.typeOf #[.iface 73 v]).run Tryz.prog w = .ok (.iface 194 (.agg #[.pointer (some ⟨22, 73, none⟩)])) w := by kernel_rfl
theorem tas_assignable25 (w : World) : (ReflectliteType.relation "AssignableTo" ReflectliteType.assignableTo #[.agg #[.pointer (some ⟨22, 73, none⟩)], .iface 194 (.agg #[.pointer (some ⟨22, 73, none⟩)])]).run Tryz.prog w = .ok (.bool true) w := by kernel_rfl
theorem tas_valueOf25 (e : Addr) (w : World) : (ReflectliteValue.unpack (.iface 73 (.pointer (some e)))).run Tryz.prog w
    = .ok (.agg #[.pointer (some ⟨22, 73, none⟩), .pointer (some ⟨w.heap.size, 0, none⟩), .int .u64 150]) (w.alloc (.cells #[.pointer (some e)] 73)) := by kernel_rfl

theorem tas_elemOf27 (w : World) : (Rtype.elem? 106).run Tryz.prog w = .ok (some 73) w := by kernel_rfl
theorem tas_mk25 (p : Addr) (w : World) : (ReflectliteValue.mk 73 p ReflectliteValue.flagAddr).run Tryz.prog w = .ok (.agg #[.pointer (some ⟨22, 73, none⟩), .pointer (some p), .int .u64 406]) w := by kernel_rfl
/-- (Value).Elem at the Value of a **p.E that is not nil: the Value of the *p.E variable that it points to, addressable. -/
theorem tas_elemV27 (a p : Addr) (W : World) (ha : W.cell? a = some (.pointer (some p))) :
    (ReflectliteValue.method (ReflectliteValue.valueError "reflectlite.Value.Elem" 0) ReflectliteValue.elem #[.agg #[.pointer (some ⟨22, 106, none⟩), .pointer (some a), .int .u64 150]]).run Tryz.prog W
      = .ok (.agg #[.pointer (some ⟨22, 73, none⟩), .pointer (some p), .int .u64 406]) W := by
  rw [tas_rlm]
  simp only [Sem.run_bind, tas_parts27, Result.andThen]
  simp [ReflectliteValue.elem, loadVar, isAgg, underlying, Tryz.underlying106, ha, Result.andThen, tas_elemOf27, tas_mk25]
theorem tas_rls (v x : Value) : ReflectliteValue.set #[v, x] = (do
    let (some (dst, a, fl), some (src, b, _)) := (← ReflectliteValue.parts v, ← ReflectliteValue.parts x)
      | unsupported (.noEntry "extern/(internal/reflectlite.Value).Set.zeroValue")
    if fl / ReflectliteValue.flagAddr % 2 == 0 then unsupported (.noEntry "extern/(internal/reflectlite.Value).Set.unaddressable")
    let val ← loadVar src b
    if ← Rtype.directlyAssignable dst src then storeVar dst a val
    else if ← Rtype.implements dst src then
      if (← Rtype.kind src) == 20 then
        match val with
        | .nilIface => unsupported (.noEntry "extern/reflectlite: a nil value of one interface type handed on as a value of another")
        | _ => storeVar dst a val
      else storeVar dst a (.iface src val)
    else panicString ("reflectlite.Set: value of type " ++ (← Rtype.spelt src) ++ " is not assignable to type " ++ (← Rtype.spelt dst))
    pure (.tuple #[])) := rfl
theorem tas_parts25a (a : Addr) (w : World) : (ReflectliteValue.parts (.agg #[.pointer (some ⟨22, 73, none⟩), .pointer (some a), .int .u64 406])).run Tryz.prog w = .ok (some (73, a, 406)) w := by kernel_rfl
theorem tas_parts25 (a : Addr) (w : World) : (ReflectliteValue.parts (.agg #[.pointer (some ⟨22, 73, none⟩), .pointer (some a), .int .u64 150])).run Tryz.prog w = .ok (some (73, a, 150)) w := by kernel_rfl
theorem tas_direct25 (w : World) : (Rtype.directlyAssignable 73 73).run Tryz.prog w = .ok true w := by kernel_rfl
theorem tas_size25 (w : World) : (sizeOf 73).run Tryz.prog w = .ok 1 w := by kernel_rfl
/-- (Value).Set: the *p.E variable at 'ta' gets what the Value's own variable 'b' holds. -/
theorem tas_set25 (ta b e : Addr) (old : Value) (W : World) (hb : W.cell? b = some (.pointer (some e))) (ht : W.cell? ta = some old) (hf : W.frozen? ta = false) :
    (ReflectliteValue.set #[.agg #[.pointer (some ⟨22, 73, none⟩), .pointer (some ta), .int .u64 406], .agg #[.pointer (some ⟨22, 73, none⟩), .pointer (some b), .int .u64 150]]).run Tryz.prog W
      = .ok (.tuple #[]) (W.setCell ta (.pointer (some e))) := by
  rw [tas_rls]
  simp only [Sem.run_bind, tas_parts25a, tas_parts25, Result.andThen]
  simp [ReflectliteValue.flagAddr, loadVar, isAgg, underlying, Tryz.underlying73, hb, Result.andThen, tas_direct25, storeVar, Value.cells, storeCells, Addr.add]
  rw [run_store Tryz.prog W ta _ _ (by rfl)]
  simp [ht, hf]


set_option maxRecDepth 100000 in
/-- errors.as -/
theorem as_in (e t : Addr) (bv : Nat) (old : Value) (w : World) (hv : w.cell? ⟨bv, 0, none⟩ = some (.pointer (some t))) (ht0 : w.cell? t = some old) (hf0 : w.frozen? t = false) :
    Calls Tryz.prog 80 #[.iface 73 (.pointer (some e)), .iface 106 (.pointer (some t)), .agg #[.pointer (some ⟨22, 106, none⟩), .pointer (some ⟨bv, 0, none⟩), .int .u64 150], .iface 194 (.agg #[.pointer (some ⟨22, 73, none⟩)])] w fun ev w' => ev = .returned (.bool true) ∧ w'.cell? t = some (.pointer (some e)) ∧ Keep (· = t.block) w w' := by
  have h10 := @run_callFunc_extern Tryz.prog 81 _ ReflectliteType.typeOf Tryz.func81 (by kernel_rfl) (by kernel_rfl) (by kernel_rfl) (by kernel_rfl)
  have h35 := @run_callFunc_extern Tryz.prog 194 _ (ReflectliteType.relation "AssignableTo" ReflectliteType.assignableTo) Tryz.func194 (by kernel_rfl) (by kernel_rfl) (by kernel_rfl) (by kernel_rfl)
  have h11 := @run_callFunc_extern Tryz.prog 107 _ (ReflectliteValue.method (ReflectliteValue.valueError "reflectlite.Value.Elem" 0) ReflectliteValue.elem) Tryz.func107 (by kernel_rfl) (by kernel_rfl) (by kernel_rfl) (by kernel_rfl)
  have h12 := @run_callFunc_extern Tryz.prog 108 _ ReflectliteValue.set Tryz.func108 (by kernel_rfl) (by kernel_rfl) (by kernel_rfl) (by kernel_rfl)
  have h6 := @run_callFunc_extern Tryz.prog 77 _ (fun args => ReflectliteValue.unpack (args.getD 0 (.tuple #[]))) Tryz.func77 (by kernel_rfl) (by kernel_rfl) (by kernel_rfl) (by kernel_rfl)
  have tO := tas_typeOf25
  have mA := tas_methodAssignableTo
  have a25 := tas_assignable25
  have v25 := tas_valueOf25
  have hbl := World.block_lt_of_cell? w _ hv
  have htl := World.block_lt_of_cell? w _ ht0
  obtain ⟨w1, HW1⟩ : ∃ w1, Hid (w.alloc (.cells #[.pointer (some ⟨22, 106, none⟩), .pointer (some ⟨bv, 0, none⟩), .int .u64 150] 148) = w1) := ⟨_, Lib.hid rfl⟩
  have HK1 : Hid (Keep nob w w1) := by unfold Hid; rw [← HW1.out]; exact (Keep.refl _ _).alloc _
  obtain ⟨b1, HB1⟩ : ∃ b1, Hid (w.heap.size = b1) := ⟨_, Lib.hid rfl⟩
  have y0 : w1.cell? ⟨b1, 0, none⟩ = some (.pointer (some ⟨22, 106, none⟩)) := by rw [← HW1.out, ← HB1.out]; simp
  have y1 : w1.cell? ⟨b1, 1, none⟩ = some (.pointer (some ⟨bv, 0, none⟩)) := by rw [← HW1.out, ← HB1.out]; simp
  have y2 : w1.cell? ⟨b1, 2, none⟩ = some (.int .u64 150) := by rw [← HW1.out, ← HB1.out]; simp
  have hv1 := HK1.out.cell hv (fun h => h)
  have ht1 := HK1.out.cell ht0 (fun h => h)
  have hf1 : w1.frozen? t = false := by rw [← hf0]; exact World.frozen?_of_block (HK1.out.block _ htl (fun h => h))
  have el := tas_elemV27 ⟨bv, 0, none⟩ t w1 hv1
  have htl1 := World.block_lt_of_cell? w1 _ ht1
  have st := tas_set25 t ⟨w1.heap.size, 0, none⟩ e old (w1.alloc (.cells #[.pointer (some e)] 73)) (by rw [World.cell?_alloc_at _ _ _ _ (by simp)]; rfl)
    (by rw [World.cell?_alloc_lt _ _ t htl1]; exact ht1) (by rw [World.frozen?_alloc_old _ _ t (Nat.ne_of_lt htl1)]; exact hf1)
  go_enter Tryz.func80, Tryz.ntmps80
  go_upto_block 0 with (fail)
  rw [HW1.out, HB1.out]
  go_wp2
  refine wp_loop_rounds 1 ?_
  rw [rounds_succ]
  go_wp2
  go_ret
  have k2 : Keep nob w1 (w1.alloc (.cells #[.pointer (some e)] 73)) := (Keep.refl _ _).alloc _
  refine ⟨rfl, ?_, (HK1.out.then_ k2).mono (fun _ _ h => h.elim) |>.then_ ((Keep.refl (· = t.block) _).setCell (fun _ => rfl) _)⟩
  exact World.cell?_setCell_same _ _ _ (k2.cell ht1 (fun h => h))
set_option maxRecDepth 100000 in
/-- errors.As of an error with a place -/
theorem as_hit (e t : Addr) (old : Value) (B : Nat) (sa : Nat → Addr) (w : World) (g : GL B sa w) (ht0 : w.cell? t = some old) (hf0 : w.frozen? t = false) :
    Calls Tryz.prog 48 #[.iface 73 (.pointer (some e)), .iface 106 (.pointer (some t))] w fun ev w' => ev = .returned (.bool true) ∧ w'.cell? t = some (.pointer (some e)) ∧ Keep (· = t.block) w w' := by
  have h6 := @run_callFunc_extern Tryz.prog 77 _ (fun args => ReflectliteValue.unpack (args.getD 0 (.tuple #[]))) Tryz.func77 (by kernel_rfl) (by kernel_rfl) (by kernel_rfl) (by kernel_rfl)
  have h7 := @run_callFunc_extern Tryz.prog 78 _ (ReflectliteValue.methodAny (ReflectliteValue.valueError "reflectlite.Value.Type" 0) (fun t _ _ _ => ReflectliteType.toType t)) Tryz.func78 (by kernel_rfl) (by kernel_rfl) (by kernel_rfl) (by kernel_rfl)
  have h8 := @run_callFunc_extern Tryz.prog 79 _ (ReflectliteValue.method (ReflectliteValue.valueError "reflectlite.Value.IsNil" 0) ReflectliteValue.isNil) Tryz.func79 (by kernel_rfl) (by kernel_rfl) (by kernel_rfl) (by kernel_rfl)
  have h27 := @run_callFunc_extern Tryz.prog 179 _ (ReflectliteType.abiMethod fun t => do pure (.int .u8 (← Rtype.kind t))) Tryz.func179 (by kernel_rfl) (by kernel_rfl) (by kernel_rfl) (by kernel_rfl)
  have h37 := @run_callFunc_extern Tryz.prog 196 _ (ReflectliteType.method ReflectliteType.elem) Tryz.func196 (by kernel_rfl) (by kernel_rfl) (by kernel_rfl) (by kernel_rfl)
  have h38 := @run_callFunc_extern Tryz.prog 197 _ (ReflectliteType.relation "Implements" ReflectliteType.implements_) Tryz.func197 (by kernel_rfl) (by kernel_rfl) (by kernel_rfl) (by kernel_rfl)
  have f6 := tas_valueOf27
  have f7 := tas_type27
  have mK := tas_methodKind
  have mE := tas_methodElem
  have mI := tas_methodImplements
  have k27 := tas_kind27
  have k25 := tas_kind25
  have e27 := tas_elem27
  have i25 := tas_implements25
  have htl := World.block_lt_of_cell? w _ ht0
  obtain ⟨bv, HBV⟩ : ∃ bv, Hid (w.heap.size = bv) := ⟨_, Lib.hid rfl⟩
  obtain ⟨w1, HW1⟩ : ∃ w1, Hid (w.alloc (.cells #[.pointer (some t)] 106) = w1) := ⟨_, Lib.hid rfl⟩
  have HK1 : Hid (Keep nob w w1) := by unfold Hid; rw [← HW1.out]; exact (Keep.refl _ _).alloc _
  have hv1 : w1.cell? ⟨bv, 0, none⟩ = some (.pointer (some t)) := by rw [← HW1.out, ← HBV.out]; simp
  obtain ⟨b2, HB2⟩ : ∃ b2, Hid (w1.heap.size = b2) := ⟨_, Lib.hid rfl⟩
  obtain ⟨w2, HW2⟩ : ∃ w2, Hid (w1.alloc (.cells #[.pointer (some ⟨22, 106, none⟩), .pointer (some ⟨bv, 0, none⟩), .int .u64 150] 148) = w2) := ⟨_, Lib.hid rfl⟩
  have HK2 : Hid (Keep nob w1 w2) := by unfold Hid; rw [← HW2.out]; exact (Keep.refl _ _).alloc _
  have y0 : w2.cell? ⟨b2, 0, none⟩ = some (.pointer (some ⟨22, 106, none⟩)) := by rw [← HW2.out, ← HB2.out]; simp
  have y1 : w2.cell? ⟨b2, 1, none⟩ = some (.pointer (some ⟨bv, 0, none⟩)) := by rw [← HW2.out, ← HB2.out]; simp
  have y2 : w2.cell? ⟨b2, 2, none⟩ = some (.int .u64 150) := by rw [← HW2.out, ← HB2.out]; simp
  have hv2 := HK2.out.cell hv1 (fun h => h)
  have hg2 := ((g.keep HK1.out (fun _ h => h.elim)).keep HK2.out (fun _ h => h.elim)).et
  have n8 := tas_isNil27 ⟨bv, 0, none⟩ t w2 hv2
  have ht2 := (HK1.out.then_ HK2.out).cell ht0 (fun h => h)
  have hf2 : w2.frozen? t = false := by rw [← hf0]; exact World.frozen?_of_block ((HK1.out.then_ HK2.out).block _ htl (fun h => h))
  have HIN := Lib.hid (as_in e t bv old w2 hv2 ht2 hf2)
  have hb2 : w.heap.size + 1 = b2 := by rw [← HB2.out, ← HW1.out]; simp
  go_enter Tryz.func48, Tryz.ntmps48
  go_upto_region 6 with (fail)
  rw [HBV.out, HW1.out, HW2.out]
  clear hb2
  go_wp2_with (go_at_call 80; go_must (refine HIN.out.mono ?_); rintro e w3 ⟨rfl, ht3, hk3⟩; have HT3 := Lib.hid ht3; have HK3 := Lib.hid hk3; clear ht3 hk3)
  go_ret
  exact ⟨rfl, HT3.out, ((HK1.out.then_ HK2.out).mono (fun _ _ h => h.elim)).then_ HK3.out⟩
end Go.Proofs.YticnefkdkkjgcaaGreatDoor

/- An error's place: At, Path, IsAt, Is. -/
namespace Go.Proofs.YticnefkdkkjgcaaGreatDoor
open Go.RowKit

theorem as_nil (t : Value) (w : World) : Calls Tryz.prog 48 #[.nilIface, t] w fun e w' => e = .returned (.bool false) ∧ w' = w := by
  go_enter Tryz.func48, Tryz.ntmps48
  go_wp2
  go_ret
  exact ⟨rfl, rfl⟩
theorem at_nil (w : World) : Calls Tryz.prog 37 #[.nilIface] w fun e w' => e = .returned (.tuple #[.int .i64 0, .bool false]) ∧ Keep nob w w' := by
  go_enter Tryz.func37, Tryz.ntmps37
  go_wp2_with (go_at_call 48; go_must (refine (as_nil _ _).mono ?_); rintro e w1 ⟨rfl, rfl⟩)
  go_ret2
  exact ⟨rfl, (Keep.refl _ _).alloc _⟩
set_option maxRecDepth 100000 in
theorem at_fault {B : Nat} {sa : Nat → Addr} {w : World} (g : GL B sa w) {D : Nat → Prop} {ev : Value} {c p : Nat} (h : FErr sa w D ev c p) : Calls Tryz.prog 37 #[ev] w fun e w' => e = .returned (.tuple #[.int .i64 (p : Int), .bool true]) ∧ Keep nob w w' := by
  obtain ⟨pb, rfl, _, _, h3, _⟩ := h
  obtain ⟨b4, HB4⟩ : ∃ b4, Hid (w.heap.size = b4) := ⟨_, Lib.hid rfl⟩
  obtain ⟨w1, HW1⟩ : ∃ w1, Hid (w.alloc (.cells #[.pointer none] 73) = w1) := ⟨_, Lib.hid rfl⟩
  have HK1 : Hid (Keep nob w w1) := by unfold Hid; rw [← HW1.out]; exact (Keep.refl _ _).alloc _
  have ht : w1.cell? ⟨b4, 0, none⟩ = some (.pointer none) := by rw [← HW1.out, ← HB4.out]; simp
  have hf : w1.frozen? ⟨b4, 0, none⟩ = false := by rw [← HW1.out, ← HB4.out]; simp
  have HA := Lib.hid (as_hit ⟨pb, 0, none⟩ ⟨b4, 0, none⟩ _ B sa w1 (g.keep HK1.out (fun _ h => h.elim)) ht hf)
  have hlt := World.block_lt_of_cell? w _ h3
  have HP3 : Hid (w1.cell? ⟨pb, 1, none⟩ = some (.int .i64 (p : Int))) := Lib.hid (HK1.out.cell h3 (fun h => h))
  have HNE : Hid (¬ pb = b4) := by have := HB4.out; simp only at hlt; exact Lib.hid (by omega)
  clear ht hf h3 g
  go_enter Tryz.func37, Tryz.ntmps37
  go_upto_region 2 with (fail)
  rw [HW1.out, HB4.out]
  go_wp2_with (go_at_call 48; go_must (refine HA.out.mono ?_); rintro e w2 ⟨rfl, ht2, hk2⟩; have h3 := hk2.cell HP3.out HNE.out; have HK2 := Lib.hid hk2; clear hk2)
  go_ret2
  have hb := HB4.out
  exact ⟨rfl, HK1.out.trans HK2.out (fun j h1 h2 => by have h4 : j = b4 := h2; omega)⟩
set_option maxRecDepth 100000 in
theorem path_fault {B : Nat} {sa : Nat → Addr} {w : World} (g : GL B sa w) {D : Nat → Prop} {ev : Value} {c p : Nat} (h : FErr sa w D ev c p) : Calls Tryz.prog 19 #[ev] w fun e w' => e = .returned (.tuple #[.string ⟨#[]⟩, .bool true]) ∧ Keep nob w w' := by
  obtain ⟨pb, rfl, _, _, _, h3⟩ := h
  obtain ⟨b4, HB4⟩ : ∃ b4, Hid (w.heap.size = b4) := ⟨_, Lib.hid rfl⟩
  obtain ⟨w1, HW1⟩ : ∃ w1, Hid (w.alloc (.cells #[.pointer none] 73) = w1) := ⟨_, Lib.hid rfl⟩
  have HK1 : Hid (Keep nob w w1) := by unfold Hid; rw [← HW1.out]; exact (Keep.refl _ _).alloc _
  have ht : w1.cell? ⟨b4, 0, none⟩ = some (.pointer none) := by rw [← HW1.out, ← HB4.out]; simp
  have hf : w1.frozen? ⟨b4, 0, none⟩ = false := by rw [← HW1.out, ← HB4.out]; simp
  have HA := Lib.hid (as_hit ⟨pb, 0, none⟩ ⟨b4, 0, none⟩ _ B sa w1 (g.keep HK1.out (fun _ h => h.elim)) ht hf)
  have hlt := World.block_lt_of_cell? w _ h3
  have HP3 : Hid (w1.cell? ⟨pb, 2, none⟩ = some (.string ⟨#[]⟩)) := Lib.hid (HK1.out.cell h3 (fun h => h))
  have HNE : Hid (¬ pb = b4) := by have := HB4.out; simp only at hlt; exact Lib.hid (by omega)
  clear ht hf h3 g
  go_enter Tryz.func19, Tryz.ntmps19
  go_upto_region 2 with (fail)
  rw [HW1.out, HB4.out]
  go_wp2_with (go_at_call 48; go_must (refine HA.out.mono ?_); rintro e w2 ⟨rfl, ht2, hk2⟩; have h3 := hk2.cell HP3.out HNE.out; have HK2 := Lib.hid hk2; clear hk2)
  go_ret2
  have hb := HB4.out
  exact ⟨rfl, HK1.out.trans HK2.out (fun j h1 h2 => by have h4 : j = b4 := h2; omega)⟩
end Go.Proofs.YticnefkdkkjgcaaGreatDoor

/- PackreadAhead: the walk of the law. -/
namespace Go.Proofs.YticnefkdkkjgcaaGreatDoor
open Go.RowKit

theorem ext_sz (s : ByteArray) (i : Nat) : (s.extract 0 i).size ≤ s.size := by rw [ByteArray.size_extract]; omega
end Go.Proofs.YticnefkdkkjgcaaGreatDoor

/- lives: what the constants are read as. -/
namespace Go.Proofs.YticnefkdkkjgcaaGreatDoor
open Go.RowKit

theorem r1 : readN Wd ⟨#[130, 161, 98, 1, 161, 97, 146, 255, 202, 63, 192, 0, 0]⟩ = .ok (V.map [V.tex ⟨#[97]⟩, V.lis [belowV 1, V.flo 4609434218613702656], V.tex ⟨#[98]⟩, wholeV 1]) 13 := by kernel_rfl
theorem r2 : readN Wd ⟨#[162, 97]⟩ = .bad 3 2 := by kernel_rfl
theorem r3 : readN Wd ⟨#[130, 1, 2, 202, 63, 128, 0, 0, 3]⟩ = .bad 3 3 := by kernel_rfl
theorem r4 : itemN Wd ⟨#[0, 255, 195]⟩ 128 1 = .ok (V.int true [1]) 2 := by kernel_rfl
theorem r6 : readN Wd ⟨#[199, 3, 255, 97, 98, 99]⟩ = .ok (V.xt (-1) ⟨#[97, 98, 99]⟩) 6 := by kernel_rfl
end Go.Proofs.YticnefkdkkjgcaaGreatDoor

/- lives. -/
namespace Go.Proofs.YticnefkdkkjgcaaGreatDoor
open Go.RowKit

theorem flat4 (a b c d : Raw) : ER.flat [a, b, c, d] = ER.cells a ++ (ER.cells b ++ (ER.cells c ++ (ER.cells d ++ []))) := by simp only [El.flat_cons, El.flat_nil]
theorem flat2 (a b : Raw) : ER.flat [a, b] = ER.cells a ++ (ER.cells b ++ []) := by simp only [El.flat_cons, El.flat_nil]
theorem open2 {W : World} {D : Nat → Prop} {r : Raw} {a b : V} (h : Tr W D r (V.lis [a, b])) : r.kL = 2 ∧ ∃ jb jo ra rb, r.kA = some ⟨jb, jo, none⟩ ∧ W.rangeAt jb jo (ER.flat [ra, rb]) ∧ Tr W D ra a ∧ Tr W D rb b := by
  unfold V.lis at h
  unfold Tr at h
  obtain ⟨-, -, -, -, -, -, -, rs, h1, h2, -, h4⟩ := h
  have hl := h4.len
  match rs, hl, h1, h2, h4 with
  | [ra, rb], _, h1, h2, h4 =>
    obtain ⟨jb, jo, e, hr⟩ := h2.at_ (by simp)
    unfold TrL at h4
    obtain ⟨k1, h4⟩ := h4
    unfold TrL at h4
    exact ⟨h1, jb, jo, ra, rb, e, hr, k1, h4.1⟩
theorem v1_cells {W : World} {D : Nat → Prop} {r : Raw} (h : Tr W D r (V.map [V.tex ⟨#[97]⟩, V.lis [belowV 1, V.flo 4609434218613702656], V.tex ⟨#[98]⟩, wholeV 1])) : r.kind = 8 ∧ r.kL = 4 ∧ ∃ kb ko, r.kA = some ⟨kb, ko, none⟩ ∧ W.cell? ⟨kb, ko + 6, none⟩ = some (.string ⟨#[97]⟩) ∧
    ∃ jb jo jc, W.cell? ⟨kb, ko + 8 + 7, none⟩ = some (.slice (some ⟨jb, jo, none⟩) 2 jc) ∧ W.cell? ⟨jb, jo + 8 + 4, none⟩ = some (.int .u64 4609434218613702656) := by
  unfold V.map at h
  unfold Tr at h
  obtain ⟨hk, -, -, -, -, -, -, rs, h1, h2, -, h4⟩ := h
  have hl := h4.len
  match rs, hl, h1, h2, h4 with
  | [ra, rb, rc, rd], _, h1, h2, h4 =>
    obtain ⟨kb, ko, e, hr⟩ := h2.at_ (by simp)
    unfold TrL at h4
    obtain ⟨k1, h4⟩ := h4
    unfold TrL at h4
    obtain ⟨k2, -⟩ := h4
    obtain ⟨hl2, jb, jo, qa, qb, e2, hr2, -, q2⟩ := open2 k2
    unfold V.tex at k1
    unfold Tr at k1
    unfold V.flo at q2
    unfold Tr at q2
    refine ⟨hk, h1, kb, ko, e, ?_, jb, jo, rb.kC, ?_, ?_⟩
    · have h := hr 6 (.string ra.text) (by rw [flat4]; rfl)
      rw [k1.2.2.2.2.2.1] at h
      exact h
    · have h := hr 15 (.slice rb.kA rb.kL rb.kC) (by rw [flat4]; rfl)
      rw [e2, hl2] at h
      exact h
    · have h := hr2 12 (.int .u64 (qb.bits : Int)) (by rw [flat2]; rfl)
      rw [q2.2.2.2.1] at h
      exact h
end Go.Proofs.YticnefkdkkjgcaaGreatDoor
