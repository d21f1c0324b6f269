/- The number of an error. -/
import Derived.Stop.LaidErr
import Derived.LaidSub
import Derived.Lib.LaidTab
import Derived.Deep.Strs
import Derived.OpenShut
import Derived.Test.YteekndchkgdccaaGreatDoorTie
import Derived.WalkKit
import Derived.ProofKit
import Derived.Deep.DeepHandedRow
import Derived.Deep.DeepWitnessRowRef
import Derived.Carry
import Derived.Test.YteekndchkgdccaaGreatDoorPa3
namespace Go.Proofs.YteekndchkgdccaaGreatDoor
open Go.RowKit

set_option maxRecDepth 100000 in
theorem code_gen (T : TypeId) (v : Value) (c : Nat) (h1 : 1 ≤ c) (h11 : c ≤ 11) (B : Nat) (sa : Nat → Addr) (w : World) (g : GL B sa w)
    (HI : ∀ W, Keep nob w W → ∀ k, 1 ≤ k → k ≤ 11 → Calls Tryz.prog 16 #[.iface T v, sent sa k] W (fun e w' => e = .returned (.bool (decide (k = c))) ∧ w' = W)) :
    Calls Tryz.prog 7 #[.iface T v] w fun e w' => e = .returned (.int .i64 (c : Int)) ∧ Keep nob w w' := by
  have e1 := g.err 1 (by decide) (by decide)
  have e2 := g.err 2 (by decide) (by decide)
  have e3 := g.err 3 (by decide) (by decide)
  have e4 := g.err 4 (by decide) (by decide)
  have e5 := g.err 5 (by decide) (by decide)
  have e6 := g.err 6 (by decide) (by decide)
  have e7 := g.err 7 (by decide) (by decide)
  have e8 := g.err 8 (by decide) (by decide)
  have e9 := g.err 9 (by decide) (by decide)
  have e10 := g.err 10 (by decide) (by decide)
  have e11 := g.err 11 (by decide) (by decide)
  simp only [gerr] at e1 e2 e3 e4 e5 e6 e7 e8 e9 e10 e11
  obtain ⟨b3, HB3⟩ : ∃ b3, Hid (w.heap.size = b3) := ⟨_, Lib.hid rfl⟩
  obtain ⟨w3, HW3⟩ : ∃ w3, Hid (w.alloc (.cells #[sent sa 1, sent sa 2, sent sa 3, sent sa 4, sent sa 5, sent sa 6, sent sa 7, sent sa 8, sent sa 9, sent sa 10, sent sa 11] 55) = w3) := ⟨_, Lib.hid rfl⟩
  have HK3 : Hid (Keep nob w w3) := by unfold Hid; rw [← HW3.out]; exact (Keep.refl _ _).alloc _
  have HC3 : Hid (∀ i, i < 11 → w3.cell? ⟨b3, i, none⟩ = some (sent sa (i + 1))) := by
    unfold Hid
    intro i hi
    rw [← HW3.out, ← HB3.out]
    match i, hi with
    | 0, _ => simp
    | 1, _ => simp
    | 2, _ => simp
    | 3, _ => simp
    | 4, _ => simp
    | 5, _ => simp
    | 6, _ => simp
    | 7, _ => simp
    | 8, _ => simp
    | 9, _ => simp
    | 10, _ => simp
  have HII := Lib.hid (HI w3 HK3.out)
  clear HI g
  simp only [sent] at e1 e2 e3 e4 e5 e6 e7 e8 e9 e10 e11 HW3
  go_enter Tryz.func7, Tryz.ntmps7
  go_upto_region 4 with (fail)
  rw [HW3.out, HB3.out]
  clear e1 e2 e3 e4 e5 e6 e7 e8 e9 e10 e11
  go_wp2_with (fail)
  go_loopw [4, 5] (fun u4 u5 wr => ∃ i : Nat, i ≤ 11 ∧ u5 = .int .i64 (i : Int) ∧ u4 = .int .i64 (if c ≤ i then (c : Int) else -1) ∧ Hid (wr = w3)) (fun _ u5 _ => 11 - (intOf u5).toNat)
  case atStart => exact ⟨0, by decide, rfl, by rw [if_neg (by omega)], Lib.hid rfl⟩
  case round =>
    obtain ⟨i, hi, rfl, rfl, HW⟩ := hrel
    have HW2 := HW.out
    subst HW2
    rcases Nat.lt_or_ge i 11 with hlt | hge
    · have hc := HC3.out i hlt
      have hcall := HII.out (i + 1) (by omega) (by omega)
      simp only [sent] at hc hcall
      have d1 : decide ((i : Int) < 11) = true := by rw [decide_eq_true_iff]; omega
      have q0 : (0 : Int) ≤ (i : Int) := by omega
      have q1 : (i : Int) < 11 := by omega
      have j1 : IntKind.i64.wrap ((i : Int) + 1) = (i : Int) + 1 := by rw [IntWalk.i64_left, IntWalk.wrap64_in _ ⟨by omega, by omega⟩]
      have HCL := Lib.hid hcall
      clear hcall
      rcases Nat.lt_trichotomy c (i + 1) with hlc | hec | hgc
      · have dd : decide (i + 1 = c) = false := by rw [decide_eq_false_iff_not]; omega
        rw [dd] at HCL
        rw [if_pos (by omega)]
        go_wp2_with (go_at_call 16; go_must (refine HCL.out.mono ?_); rintro e w1 ⟨rfl, rfl⟩)
        refine ⟨⟨i + 1, hlt, rfl, by rw [if_pos (by omega)], Lib.hid trivial⟩, by simp [intOf]; omega⟩
      · have dd : decide (i + 1 = c) = true := by rw [decide_eq_true_iff]; omega
        rw [dd] at HCL
        rw [if_neg (by omega)]
        go_wp2_with (go_at_call 16; go_must (refine HCL.out.mono ?_); rintro e w1 ⟨rfl, rfl⟩)
        refine ⟨⟨i + 1, hlt, rfl, by rw [if_pos (by omega), hec]; rfl, Lib.hid trivial⟩, by simp [intOf]; omega⟩
      · have dd : decide (i + 1 = c) = false := by rw [decide_eq_false_iff_not]; omega
        rw [dd] at HCL
        rw [if_neg (by omega)]
        go_wp2_with (go_at_call 16; go_must (refine HCL.out.mono ?_); rintro e w1 ⟨rfl, rfl⟩)
        refine ⟨⟨i + 1, hlt, rfl, by rw [if_neg (by omega)], Lib.hid trivial⟩, by simp [intOf]; omega⟩
    · obtain rfl : i = 11 := by omega
      rw [if_pos h11]
      go_wp2_with (fail)
      go_ret
      exact ⟨rfl, HK3.out⟩
theorem is_fault {B : Nat} {sa : Nat → Addr} {W : World} (g : GL B sa W) {pb c : Nat} (hc : 1 ≤ c) (hc11 : c ≤ 11) (h : W.cell? ⟨pb, 0, none⟩ = some (sent sa c)) (k : Nat) (h1 : 1 ≤ k) (h11 : k ≤ 11) :
    Calls Tryz.prog 16 #[.iface 77 (.pointer (some ⟨pb, 0, none⟩)), sent sa k] W (fun e w' => e = .returned (.bool (decide (k = c))) ∧ w' = W) := by
  by_cases hk : k = c
  · subst hk
    rw [decide_eq_true rfl]
    exact is_fault_same pb (sa k) W h
  · rw [decide_eq_false hk]
    obtain ⟨_, ca, ta, ha⟩ := g.sen c hc hc11
    obtain ⟨_, cb, tb, hb⟩ := g.sen k h1 h11
    exact is_fault_other pb (sa c) (sa k) ca cb ta tb W h (fun e => hk (g.inj c k hc hc11 h1 h11 e).symm) ha hb
theorem is_sent {B : Nat} {sa : Nat → Addr} {W : World} (g : GL B sa W) {c : Nat} (hc : 1 ≤ c) (hc11 : c ≤ 11) (k : Nat) (h1 : 1 ≤ k) (h11 : k ≤ 11) :
    Calls Tryz.prog 16 #[sent sa c, sent sa k] W (fun e w' => e = .returned (.bool (decide (k = c))) ∧ w' = W) := by
  by_cases hk : k = c
  · subst hk
    rw [decide_eq_true rfl]
    exact is_same (sa k) W
  · rw [decide_eq_false hk]
    obtain ⟨_, ca, ta, ha⟩ := g.sen c hc hc11
    obtain ⟨_, cb, tb, hb⟩ := g.sen k h1 h11
    exact is_other (sa c) (sa k) ca cb ta tb W (fun e => hk (g.inj c k hc hc11 h1 h11 e).symm) ha hb
/-- an error with a place -/
theorem code_fault {B : Nat} {sa : Nat → Addr} {w : World} (g : GL B sa w) {D : Nat → Prop} {ev : Value} {c p : Nat} (hc : 1 ≤ c) (hc11 : c ≤ 11) (h : FErr sa w D ev c p) : Calls Tryz.prog 7 #[ev] w fun e w' => e = .returned (.int .i64 (c : Int)) ∧ Keep nob w w' := by
  obtain ⟨pb, rfl, _, h2, _, _⟩ := h
  exact code_gen _ _ c hc hc11 B sa w g (fun W k j h1 h11 => is_fault (g.keep k (fun _ h => h.elim)) hc hc11 (k.cell h2 (fun h => h)) j h1 h11)
theorem code_sent {B : Nat} {sa : Nat → Addr} {w : World} (g : GL B sa w) {c : Nat} (hc : 1 ≤ c) (hc11 : c ≤ 11) : Calls Tryz.prog 7 #[sent sa c] w fun e w' => e = .returned (.int .i64 (c : Int)) ∧ Keep nob w w' :=
  code_gen _ _ c hc hc11 B sa w g (fun _ k j h1 h11 => is_sent (g.keep k (fun _ h => h.elim)) hc hc11 j h1 h11)
end Go.Proofs.YteekndchkgdccaaGreatDoor

/- errors.As of an error with a place. -/
namespace Go.Proofs.YteekndchkgdccaaGreatDoor
open Go.RowKit Go.Extern.Stop Go.Stop Go.Extern

theorem tas_methodKind (h : Value) (w : World) : (Go.method 327 115 (.agg #[h]) "Kind").run Tryz.prog w = .ok (135, h) w := by kernel_rfl
theorem tas_kind25 (w : World) : ((ReflectliteType.abiMethod fun t => (fun a : Nat => Value.int IntKind.u8 (a : Int)) <$> Rtype.kind t) #[.pointer (some ⟨17, 77, none⟩)]).run Tryz.prog w = .ok (.int .u8 22) w := by kernel_rfl


theorem tas_rlm (z : Sem Value) (f : TypeId → Addr → Nat → Nat → Sem Value) (v : Value) :
    ReflectliteValue.method z f #[v] = (do match ← ReflectliteValue.parts v with | none => z | some (t, a, fl) => f t a fl (fl % 32)) := rfl
theorem tas_methodElem (h : Value) (w : World) : (Go.method 327 115 (.agg #[h]) "Elem").run Tryz.prog w = .ok (139, .agg #[h]) w := by kernel_rfl
theorem tas_methodImplements (h : Value) (w : World) : (Go.method 327 115 (.agg #[h]) "Implements").run Tryz.prog w = .ok (140, .agg #[h]) w := by kernel_rfl
theorem tas_methodAssignableTo (h : Value) (w : World) : (Go.method 327 115 (.agg #[h]) "AssignableTo").run Tryz.prog w = .ok (137, .agg #[h]) w := by kernel_rfl
theorem tas_implements25 (w : World) : (ReflectliteType.relation "Implements" ReflectliteType.implements_ #[.agg #[.pointer (some ⟨17, 77, none⟩)], .iface 115 (.agg #[.pointer (some ⟨17, 37, none⟩)])]).run Tryz.prog w = .ok (.bool true) w := by kernel_rfl
theorem tas_typeOf25 (v : Value) (w : World) : (ReflectliteType.typeOf #[.iface 77 v]).run Tryz.prog w = .ok (.iface 115 (.agg #[.pointer (some ⟨17, 77, none⟩)])) w := by kernel_rfl
theorem tas_assignable25 (w : World) : (ReflectliteType.relation "AssignableTo" ReflectliteType.assignableTo #[.agg #[.pointer (some ⟨17, 77, none⟩)], .iface 115 (.agg #[.pointer (some ⟨17, 77, none⟩)])]).run Tryz.prog w = .ok (.bool true) w := by kernel_rfl
theorem tas_valueOf25 (e : Addr) (w : World) : (ReflectliteValue.unpack (.iface 77 (.pointer (some e)))).run Tryz.prog w
    = .ok (.agg #[.pointer (some ⟨17, 77, none⟩), .pointer (some ⟨w.heap.size, 0, none⟩), .int .u64 150]) (w.alloc (.cells #[.pointer (some e)] 77)) := by kernel_rfl

theorem tas_mk25 (p : Addr) (w : World) : (ReflectliteValue.mk 77 p ReflectliteValue.flagAddr).run Tryz.prog w = .ok (.agg #[.pointer (some ⟨17, 77, none⟩), .pointer (some p), .int .u64 406]) w := by kernel_rfl
theorem tas_rls (v x : Value) : ReflectliteValue.set #[v, x] = (do
    let (some (dst, a, fl), some (src, b, _)) := (← ReflectliteValue.parts v, ← ReflectliteValue.parts x)
      | unsupported (.noEntry "extern/(internal/reflectlite.Value).Set.zeroValue")
    if fl / ReflectliteValue.flagAddr % 2 == 0 then unsupported (.noEntry "extern/(internal/reflectlite.Value).Set.unaddressable")
    let val ← loadVar src b
    if ← Rtype.directlyAssignable dst src then storeVar dst a val
    else if ← Rtype.implements dst src then
      if (← Rtype.kind src) == 20 then
        match val with
        | .nilIface => unsupported (.noEntry "extern/reflectlite: a nil value of one interface type handed on as a value of another")
        | _ => storeVar dst a val
      else storeVar dst a (.iface src val)
    else panicString ("reflectlite.Set: value of type " ++ (← Rtype.spelt src) ++ " is not assignable to type " ++ (← Rtype.spelt dst))
    pure (.tuple #[])) := rfl
theorem tas_parts25a (a : Addr) (w : World) : (ReflectliteValue.parts (.agg #[.pointer (some ⟨17, 77, none⟩), .pointer (some a), .int .u64 406])).run Tryz.prog w = .ok (some (77, a, 406)) w := by kernel_rfl
theorem tas_parts25 (a : Addr) (w : World) : (ReflectliteValue.parts (.agg #[.pointer (some ⟨17, 77, none⟩), .pointer (some a), .int .u64 150])).run Tryz.prog w = .ok (some (77, a, 150)) w := by kernel_rfl
theorem tas_direct25 (w : World) : (Rtype.directlyAssignable 77 77).run Tryz.prog w = .ok true w := by kernel_rfl
theorem tas_size25 (w : World) : (sizeOf 77).run Tryz.prog w = .ok 1 w := by kernel_rfl
/-- (Value).Set: the *p.E variable at 'ta' gets what the Value's own variable 'b' holds. -/
theorem tas_set25 (ta b e : Addr) (old : Value) (W : World) (hb : W.cell? b = some (.pointer (some e))) (ht : W.cell? ta = some old) (hf : W.frozen? ta = false) :
    (ReflectliteValue.set #[.agg #[.pointer (some ⟨17, 77, none⟩), .pointer (some ta), .int .u64 406], .agg #[.pointer (some ⟨17, 77, none⟩), .pointer (some b), .int .u64 150]]).run Tryz.prog W
      = .ok (.tuple #[]) (W.setCell ta (.pointer (some e))) := by
  rw [tas_rls]
  simp only [Sem.run_bind, tas_parts25a, tas_parts25, Result.andThen]
  simp [ReflectliteValue.flagAddr, loadVar, isAgg, underlying, Tryz.underlying77, hb, Result.andThen, tas_direct25, storeVar, Value.cells, storeCells, Addr.add]
  rw [run_store Tryz.prog W ta _ _ (by rfl)]
  simp [ht, hf]


end Go.Proofs.YteekndchkgdccaaGreatDoor

/- An error's place: At, Path, IsAt, Is. -/
namespace Go.Proofs.YteekndchkgdccaaGreatDoor
open Go.RowKit

end Go.Proofs.YteekndchkgdccaaGreatDoor

/- PackreadAhead: the walk of the law. -/
namespace Go.Proofs.YteekndchkgdccaaGreatDoor
open Go.RowKit

theorem ext_sz (s : ByteArray) (i : Nat) : (s.extract 0 i).size ≤ s.size := by rw [ByteArray.size_extract]; omega
end Go.Proofs.YteekndchkgdccaaGreatDoor

/- lives: what the constants are read as. -/
namespace Go.Proofs.YteekndchkgdccaaGreatDoor
open Go.RowKit

theorem r1 : readN Wd ⟨#[130, 161, 98, 1, 161, 97, 146, 255, 202, 63, 192, 0, 0]⟩ = .ok (V.map [V.tex ⟨#[97]⟩, V.lis [belowV 1, V.flo 4609434218613702656], V.tex ⟨#[98]⟩, wholeV 1]) 13 := by kernel_rfl
theorem r2 : readN Wd ⟨#[162, 97]⟩ = .bad 3 2 := by kernel_rfl
theorem r3 : readN Wd ⟨#[130, 1, 2, 202, 63, 128, 0, 0, 3]⟩ = .bad 3 3 := by kernel_rfl
theorem r4 : itemN Wd ⟨#[0, 255, 195]⟩ 128 1 = .ok (V.int true [1]) 2 := by kernel_rfl
theorem r6 : readN Wd ⟨#[199, 3, 255, 97, 98, 99]⟩ = .ok (V.xt (-1) ⟨#[97, 98, 99]⟩) 6 := by kernel_rfl
end Go.Proofs.YteekndchkgdccaaGreatDoor

/- lives. -/
namespace Go.Proofs.YteekndchkgdccaaGreatDoor
open Go.RowKit

theorem flat4 (a b c d : Raw) : ER.flat [a, b, c, d] = ER.cells a ++ (ER.cells b ++ (ER.cells c ++ (ER.cells d ++ []))) := by simp only [El.flat_cons, El.flat_nil]
theorem flat2 (a b : Raw) : ER.flat [a, b] = ER.cells a ++ (ER.cells b ++ []) := by simp only [El.flat_cons, El.flat_nil]
theorem open2 {W : World} {D : Nat → Prop} {r : Raw} {a b : V} (h : Tr W D r (V.lis [a, b])) : r.kL = 2 ∧ ∃ jb jo ra rb, r.kA = some ⟨jb, jo, none⟩ ∧ W.rangeAt jb jo (ER.flat [ra, rb]) ∧ Tr W D ra a ∧ Tr W D rb b := by
  unfold V.lis at h
  unfold Tr at h
  obtain ⟨-, -, -, -, -, -, -, rs, h1, h2, -, h4⟩ := h
  have hl := h4.len
  match rs, hl, h1, h2, h4 with
  | [ra, rb], _, h1, h2, h4 =>
    obtain ⟨jb, jo, e, hr⟩ := h2.at_ (by simp)
    unfold TrL at h4
    obtain ⟨k1, h4⟩ := h4
    unfold TrL at h4
    exact ⟨h1, jb, jo, ra, rb, e, hr, k1, h4.1⟩
theorem v1_cells {W : World} {D : Nat → Prop} {r : Raw} (h : Tr W D r (V.map [V.tex ⟨#[97]⟩, V.lis [belowV 1, V.flo 4609434218613702656], V.tex ⟨#[98]⟩, wholeV 1])) : r.kind = 8 ∧ r.kL = 4 ∧ ∃ kb ko, r.kA = some ⟨kb, ko, none⟩ ∧ W.cell? ⟨kb, ko + 6, none⟩ = some (.string ⟨#[97]⟩) ∧
    ∃ jb jo jc, W.cell? ⟨kb, ko + 8 + 7, none⟩ = some (.slice (some ⟨jb, jo, none⟩) 2 jc) ∧ W.cell? ⟨jb, jo + 8 + 4, none⟩ = some (.int .u64 4609434218613702656) := by
  unfold V.map at h
  unfold Tr at h
  obtain ⟨hk, -, -, -, -, -, -, rs, h1, h2, -, h4⟩ := h
  have hl := h4.len
  match rs, hl, h1, h2, h4 with
  | [ra, rb, rc, rd], _, h1, h2, h4 =>
    obtain ⟨kb, ko, e, hr⟩ := h2.at_ (by simp)
    unfold TrL at h4
    obtain ⟨k1, h4⟩ := h4
    unfold TrL at h4
    obtain ⟨k2, -⟩ := h4
    obtain ⟨hl2, jb, jo, qa, qb, e2, hr2, -, q2⟩ := open2 k2
    unfold V.tex at k1
    unfold Tr at k1
    unfold V.flo at q2
    unfold Tr at q2
    refine ⟨hk, h1, kb, ko, e, ?_, jb, jo, rb.kC, ?_, ?_⟩
    · have h := hr 6 (.string ra.text) (by rw [flat4]; rfl)
      rw [k1.2.2.2.2.2.1] at h
      exact h
    · have h := hr 15 (.slice rb.kA rb.kL rb.kC) (by rw [flat4]; rfl)
      rw [e2, hl2] at h
      exact h
    · have h := hr2 12 (.int .u64 (qb.bits : Int)) (by rw [flat2]; rfl)
      rw [q2.2.2.2.1] at h
      exact h
end Go.Proofs.YteekndchkgdccaaGreatDoor

/- What the row lays: the package's variables. -/
namespace Go.Proofs.YteekndchkgdccaaGreatDoor
open Go.ChangeShapes Go.WideShapes Go.RowKit

theorem star : "*" ++ "errors.errorString" = "*errors.errorString" := by decide
theorem rowE (u : TypeId) (h : Tryz.prog.typeName? 3 u = some "*errors.errorString") : u = 194 :=
  typeName_ptr_named (nm := "errors.errorString") (by rw [star]; kernel_rfl) (by kernel_rfl) (by decide) u (by rw [star]; exact h)
theorem cellsE : Tryz.prog.cellsOf 217 = 1 := by kernel_rfl
theorem cellsS : Tryz.prog.cellsOf 9 = 1 := by kernel_rfl
set_option maxRecDepth 100000 in
theorem sent1 {n : String} {text : List UInt8} {r : List (String × DataW Unit)} {W : World} {g : Nat}
    (h : laidMet Tryz.prog ((n, .iface "*errors.errorString" (.ptr (.agg [.lit (.string text)]))) :: r) W) (hg : Tryz.prog.globalNamed n = some g) (ht : (Tryz.prog.globals[g]?).map (·.type) = some 37) :
    ∃ (a : Addr) (s : ByteArray) (c : Array Value) (t : TypeId), W.cell? ⟨g, 0, none⟩ = some (.iface 194 (.pointer (some a))) ∧ W.cell? a = some (.string s) ∧ s.data.toList = text ∧ W.heap[a.block]? = some (.cells c t (0, 0)) := by
  obtain ⟨ps, ⟨g0, t0, cs0, f0, p0, q0, hg0, ht0, hv0, hd0, _, e0⟩, _, hrows⟩ := h
  obtain rfl := Option.some.inj (hg.symm.trans hg0)
  obtain rfl := Option.some.inj (ht.symm.trans ht0)
  subst e0
  obtain ⟨l0⟩ := cs0
  have ok0 : ∀ u v, l0 = [.iface u v] → Value.okWide Tryz.prog W .any 0 u v := fun u v e => by
    subst e
    exact (hrows g 0 (by simp [MemPlace.row])).2 u v (by simpa using World.var?_cell hg0 hv0 0)
  obtain ⟨a, s, rfl, hc, hs, hz, rfl⟩ := errorString_of_trod Tryz.underlying37 rowE Tryz.underlying194 Tryz.underlying217 rfl rfl Tryz.underlying9 cellsE cellsS hd0 ok0
  obtain ⟨c0, t1, hb0⟩ := (hrows a.block a.off (by simp [MemPlace.row])).1
  refine ⟨a, s, c0, t1, ?_, hc, hs, hb0⟩
  simpa using World.var?_cell hg0 hv0 0
def textE : Nat → List UInt8
  | 1 => [97, 110, 32, 97, 114, 103, 117, 109, 101, 110, 116, 32, 116, 104, 97, 116, 32, 109, 97, 121, 32, 110, 111, 116, 32, 98, 101]
  | 2 => [97, 110, 32, 111, 98, 106, 101, 99, 116, 32, 116, 104, 97, 116, 32, 105, 115, 32, 110, 111, 116, 32, 116, 104, 101, 114, 101]
  | 3 => [110, 111, 32, 100, 111, 99, 117, 109, 101, 110, 116, 32, 111, 102, 32, 105, 116, 115, 32, 102, 111, 114, 109, 97, 116]
  | 4 => [97, 32, 118, 97, 108, 117, 101, 32, 116, 104, 97, 116, 32, 116, 104, 101, 32, 102, 111, 114, 109, 97, 116, 32, 104, 97, 115, 32, 110, 111, 116]
  | 5 => [97, 32, 108, 105, 109, 105, 116]
  | 6 => [110, 111, 32, 115, 117, 99, 104, 32, 116, 104, 105, 110, 103]
  | 7 => [116, 111, 111, 32, 109, 97, 110, 121, 32, 115, 101, 115, 115, 105, 111, 110, 115]
  | 8 => [110, 111, 32, 115, 117, 99, 104, 32, 115, 101, 115, 115, 105, 111, 110]
  | 9 => [97, 110, 111, 116, 104, 101, 114, 32, 107, 101, 121]
  | 10 => [115, 116, 111, 112, 112, 101, 100]
  | _ => [110, 111, 32, 115, 99, 114, 105, 112, 116]
set_option maxRecDepth 100000 in
theorem textE_inj : ((List.range 11).all fun i => (List.range 11).all fun j => decide (i = j) || !decide (textE (i + 1) = textE (j + 1))) = true := by kernel_rfl
set_option maxRecDepth 100000 in
theorem sent_1 {W : World} (h : laidMetH Tryz.prog Rows.typedBackUptoRow.laid W) : ∃ (a : Addr) (s : ByteArray) (c : Array Value) (t : TypeId), W.cell? ⟨gerr 1, 0, none⟩ = some (.iface 194 (.pointer (some a))) ∧ W.cell? a = some (.string s) ∧ s.data.toList = textE 1 ∧ W.heap[a.block]? = some (.cells c t (0, 0)) := by
  have h1 : laidMetH Tryz.prog [("crucible/api.ErrArg", Rows.laid_crucible_api_ErrArg)] W := h.filter (fun x => x.1 == "crucible/api.ErrArg")
  have h2 : laidMet Tryz.prog [("crucible/api.ErrArg", Rows.laid_crucible_api_ErrArg)] W := h1
  exact sent1 h2 (g := gerr 1) (by kernel_rfl) (by kernel_rfl)
set_option maxRecDepth 100000 in
theorem sent_2 {W : World} (h : laidMetH Tryz.prog Rows.typedBackUptoRow.laid W) : ∃ (a : Addr) (s : ByteArray) (c : Array Value) (t : TypeId), W.cell? ⟨gerr 2, 0, none⟩ = some (.iface 194 (.pointer (some a))) ∧ W.cell? a = some (.string s) ∧ s.data.toList = textE 2 ∧ W.heap[a.block]? = some (.cells c t (0, 0)) := by
  have h1 : laidMetH Tryz.prog [("crucible/api.ErrNil", Rows.laid_crucible_api_ErrNil)] W := h.filter (fun x => x.1 == "crucible/api.ErrNil")
  have h2 : laidMet Tryz.prog [("crucible/api.ErrNil", Rows.laid_crucible_api_ErrNil)] W := h1
  exact sent1 h2 (g := gerr 2) (by kernel_rfl) (by kernel_rfl)
set_option maxRecDepth 100000 in
theorem sent_3 {W : World} (h : laidMetH Tryz.prog Rows.typedBackUptoRow.laid W) : ∃ (a : Addr) (s : ByteArray) (c : Array Value) (t : TypeId), W.cell? ⟨gerr 3, 0, none⟩ = some (.iface 194 (.pointer (some a))) ∧ W.cell? a = some (.string s) ∧ s.data.toList = textE 3 ∧ W.heap[a.block]? = some (.cells c t (0, 0)) := by
  have h1 : laidMetH Tryz.prog [("crucible/api.ErrInput", Rows.laid_crucible_api_ErrInput)] W := h.filter (fun x => x.1 == "crucible/api.ErrInput")
  have h2 : laidMet Tryz.prog [("crucible/api.ErrInput", Rows.laid_crucible_api_ErrInput)] W := h1
  exact sent1 h2 (g := gerr 3) (by kernel_rfl) (by kernel_rfl)
set_option maxRecDepth 100000 in
theorem sent_4 {W : World} (h : laidMetH Tryz.prog Rows.typedBackUptoRow.laid W) : ∃ (a : Addr) (s : ByteArray) (c : Array Value) (t : TypeId), W.cell? ⟨gerr 4, 0, none⟩ = some (.iface 194 (.pointer (some a))) ∧ W.cell? a = some (.string s) ∧ s.data.toList = textE 4 ∧ W.heap[a.block]? = some (.cells c t (0, 0)) := by
  have h1 : laidMetH Tryz.prog [("crucible/api.ErrRep", Rows.laid_crucible_api_ErrRep)] W := h.filter (fun x => x.1 == "crucible/api.ErrRep")
  have h2 : laidMet Tryz.prog [("crucible/api.ErrRep", Rows.laid_crucible_api_ErrRep)] W := h1
  exact sent1 h2 (g := gerr 4) (by kernel_rfl) (by kernel_rfl)
set_option maxRecDepth 100000 in
theorem sent_5 {W : World} (h : laidMetH Tryz.prog Rows.typedBackUptoRow.laid W) : ∃ (a : Addr) (s : ByteArray) (c : Array Value) (t : TypeId), W.cell? ⟨gerr 5, 0, none⟩ = some (.iface 194 (.pointer (some a))) ∧ W.cell? a = some (.string s) ∧ s.data.toList = textE 5 ∧ W.heap[a.block]? = some (.cells c t (0, 0)) := by
  have h1 : laidMetH Tryz.prog [("crucible/api.ErrLimit", Rows.laid_crucible_api_ErrLimit)] W := h.filter (fun x => x.1 == "crucible/api.ErrLimit")
  have h2 : laidMet Tryz.prog [("crucible/api.ErrLimit", Rows.laid_crucible_api_ErrLimit)] W := h1
  exact sent1 h2 (g := gerr 5) (by kernel_rfl) (by kernel_rfl)
set_option maxRecDepth 100000 in
theorem sent_6 {W : World} (h : laidMetH Tryz.prog Rows.typedBackUptoRow.laid W) : ∃ (a : Addr) (s : ByteArray) (c : Array Value) (t : TypeId), W.cell? ⟨gerr 6, 0, none⟩ = some (.iface 194 (.pointer (some a))) ∧ W.cell? a = some (.string s) ∧ s.data.toList = textE 6 ∧ W.heap[a.block]? = some (.cells c t (0, 0)) := by
  have h1 : laidMetH Tryz.prog [("crucible/api.ErrNone", Rows.laid_crucible_api_ErrNone)] W := h.filter (fun x => x.1 == "crucible/api.ErrNone")
  have h2 : laidMet Tryz.prog [("crucible/api.ErrNone", Rows.laid_crucible_api_ErrNone)] W := h1
  exact sent1 h2 (g := gerr 6) (by kernel_rfl) (by kernel_rfl)
set_option maxRecDepth 100000 in
theorem sent_7 {W : World} (h : laidMetH Tryz.prog Rows.typedBackUptoRow.laid W) : ∃ (a : Addr) (s : ByteArray) (c : Array Value) (t : TypeId), W.cell? ⟨gerr 7, 0, none⟩ = some (.iface 194 (.pointer (some a))) ∧ W.cell? a = some (.string s) ∧ s.data.toList = textE 7 ∧ W.heap[a.block]? = some (.cells c t (0, 0)) := by
  have h1 : laidMetH Tryz.prog [("crucible/api.ErrBusy", Rows.laid_crucible_api_ErrBusy)] W := h.filter (fun x => x.1 == "crucible/api.ErrBusy")
  have h2 : laidMet Tryz.prog [("crucible/api.ErrBusy", Rows.laid_crucible_api_ErrBusy)] W := h1
  exact sent1 h2 (g := gerr 7) (by kernel_rfl) (by kernel_rfl)
set_option maxRecDepth 100000 in
theorem sent_8 {W : World} (h : laidMetH Tryz.prog Rows.typedBackUptoRow.laid W) : ∃ (a : Addr) (s : ByteArray) (c : Array Value) (t : TypeId), W.cell? ⟨gerr 8, 0, none⟩ = some (.iface 194 (.pointer (some a))) ∧ W.cell? a = some (.string s) ∧ s.data.toList = textE 8 ∧ W.heap[a.block]? = some (.cells c t (0, 0)) := by
  have h1 : laidMetH Tryz.prog [("crucible/api.ErrHandle", Rows.laid_crucible_api_ErrHandle)] W := h.filter (fun x => x.1 == "crucible/api.ErrHandle")
  have h2 : laidMet Tryz.prog [("crucible/api.ErrHandle", Rows.laid_crucible_api_ErrHandle)] W := h1
  exact sent1 h2 (g := gerr 8) (by kernel_rfl) (by kernel_rfl)
set_option maxRecDepth 100000 in
theorem sent_9 {W : World} (h : laidMetH Tryz.prog Rows.typedBackUptoRow.laid W) : ∃ (a : Addr) (s : ByteArray) (c : Array Value) (t : TypeId), W.cell? ⟨gerr 9, 0, none⟩ = some (.iface 194 (.pointer (some a))) ∧ W.cell? a = some (.string s) ∧ s.data.toList = textE 9 ∧ W.heap[a.block]? = some (.cells c t (0, 0)) := by
  have h1 : laidMetH Tryz.prog [("crucible/api.ErrKey", Rows.laid_crucible_api_ErrKey)] W := h.filter (fun x => x.1 == "crucible/api.ErrKey")
  have h2 : laidMet Tryz.prog [("crucible/api.ErrKey", Rows.laid_crucible_api_ErrKey)] W := h1
  exact sent1 h2 (g := gerr 9) (by kernel_rfl) (by kernel_rfl)
set_option maxRecDepth 100000 in
theorem sent_10 {W : World} (h : laidMetH Tryz.prog Rows.typedBackUptoRow.laid W) : ∃ (a : Addr) (s : ByteArray) (c : Array Value) (t : TypeId), W.cell? ⟨gerr 10, 0, none⟩ = some (.iface 194 (.pointer (some a))) ∧ W.cell? a = some (.string s) ∧ s.data.toList = textE 10 ∧ W.heap[a.block]? = some (.cells c t (0, 0)) := by
  have h1 : laidMetH Tryz.prog [("crucible/api.ErrStopped", Rows.laid_crucible_api_ErrStopped)] W := h.filter (fun x => x.1 == "crucible/api.ErrStopped")
  have h2 : laidMet Tryz.prog [("crucible/api.ErrStopped", Rows.laid_crucible_api_ErrStopped)] W := h1
  exact sent1 h2 (g := gerr 10) (by kernel_rfl) (by kernel_rfl)
set_option maxRecDepth 100000 in
theorem sent_11 {W : World} (h : laidMetH Tryz.prog Rows.typedBackUptoRow.laid W) : ∃ (a : Addr) (s : ByteArray) (c : Array Value) (t : TypeId), W.cell? ⟨gerr 11, 0, none⟩ = some (.iface 194 (.pointer (some a))) ∧ W.cell? a = some (.string s) ∧ s.data.toList = textE 11 ∧ W.heap[a.block]? = some (.cells c t (0, 0)) := by
  have h1 : laidMetH Tryz.prog [("crucible/api.ErrScript", Rows.laid_crucible_api_ErrScript)] W := h.filter (fun x => x.1 == "crucible/api.ErrScript")
  have h2 : laidMet Tryz.prog [("crucible/api.ErrScript", Rows.laid_crucible_api_ErrScript)] W := h1
  exact sent1 h2 (g := gerr 11) (by kernel_rfl) (by kernel_rfl)
end Go.Proofs.YteekndchkgdccaaGreatDoor

/- What the row lays: the table of math/bits, errorType. -/
namespace Go.Proofs.YteekndchkgdccaaGreatDoor
open Go.ChangeShapes Go.WideShapes Go.RowKit

set_option maxRecDepth 100000 in
theorem tz_of_laid {W : World} (h : laidMetH Tryz.prog Rows.typedBackUptoRow.laid W) : Lib.TabIs Tryz.prog W "math/bits.deBruijn64tab" .u8 (tzL.map fun n : Nat => (n : Int)) := by
  have h1 : laidMetH Tryz.prog [("math/bits.deBruijn64tab", Rows.laid_math_bits_deBruijn64tab)] W := h.filter (fun x => x.1 == "math/bits.deBruijn64tab")
  have h2 : laidMet Tryz.prog [("math/bits.deBruijn64tab", Rows.laid_math_bits_deBruijn64tab)] W := h1
  exact Lib.tabIs_of_head (rest := []) (g := 14) (t := 176) (e := 5) (n := 64) (by kernel_rfl) (by kernel_rfl) (by kernel_rfl) (by kernel_rfl) (by kernel_rfl) (by kernel_rfl) h2
set_option maxRecDepth 100000 in
theorem kd_of_laid {W : World} (h : laidMetH Tryz.prog Rows.typedBackUptoRow.laid W) : Lib.TabIs Tryz.prog W "crucible/typed.kinds" .i8 (kdL.map fun n : Nat => (n : Int)) := by
  have h1 : laidMetH Tryz.prog [("crucible/typed.kinds", Rows.laid_crucible_typed_kinds)] W := h.filter (fun x => x.1 == "crucible/typed.kinds")
  have h2 : laidMet Tryz.prog [("crucible/typed.kinds", Rows.laid_crucible_typed_kinds)] W := h1
  exact Lib.tabIs_of_head (rest := []) (g := 11) (t := 85) (e := 25) (n := 23) (by kernel_rfl) (by kernel_rfl) (by kernel_rfl) (by kernel_rfl) (by kernel_rfl) (by kernel_rfl) h2
theorem pow_data : (Rows.laid_internal_strconv_uint64pow10 : DataW Unit) = Lib.tabData .u64 Lib.pow10Tab := by kernel_rfl
set_option maxRecDepth 100000 in
theorem pw_of_laid {W : World} (h : laidMetH Tryz.prog Rows.typedBackUptoRow.laid W) : Lib.TabIs Tryz.prog W "internal/strconv.uint64pow10" .u64 Lib.pow10Tab := by
  have h1 : laidMetH Tryz.prog [("internal/strconv.uint64pow10", Rows.laid_internal_strconv_uint64pow10)] W := h.filter (fun x => x.1 == "internal/strconv.uint64pow10")
  have h2 : laidMet Tryz.prog [("internal/strconv.uint64pow10", Rows.laid_internal_strconv_uint64pow10)] W := h1
  rw [pow_data] at h2
  exact Lib.tabIs_of_head (rest := []) (g := 15) (t := 186) (e := 28) (n := 20) (by kernel_rfl) (by kernel_rfl) (by kernel_rfl) (by kernel_rfl) (by kernel_rfl) (by kernel_rfl) h2
end Go.Proofs.YteekndchkgdccaaGreatDoor

/- The package's variables, together. -/
namespace Go.Proofs.YteekndchkgdccaaGreatDoor
open Go.ChangeShapes Go.WideShapes Go.RowKit

/-- three integers, one behind the other -/
theorem three_of {cs : List Value} {W : World} {b0 : Nat} {sp : Nat → Bool} {held : Bool} {enc : TypeId × Value → Unit} {m k : Nat} {x0 x1 x2 : Int} {pl : List MemPlace}
    (h : DataW.trod enc Tryz.prog W b0 sp held m 141 ((cs.drop k).take 3) = some (.agg [.lit (.int .i64 x0), .lit (.int .i64 x1), .lit (.int .i64 x2)], pl)) :
    cs[k]? = some (.int .i64 x0) ∧ cs[k + 1]? = some (.int .i64 x1) ∧ cs[k + 2]? = some (.int .i64 x2) := by
  obtain ⟨y0, y1, y2, n, hx, _, e0, e1, e2⟩ := Go.Deep.trod_struct3 Tryz.underlying141 h
  obtain ⟨z0, c0, d0, _⟩ := DataW.trod_int Tryz.underlying3 e0
  obtain ⟨z1, c1, d1, _⟩ := DataW.trod_int Tryz.underlying3 e1
  obtain ⟨z2, c2, d2, _⟩ := DataW.trod_int Tryz.underlying3 e2
  subst d0; subst d1; subst d2
  simp only [Prod.mk.injEq, DataW.agg.injEq, List.cons.injEq, DataW.lit.injEq, Lit.int.injEq, true_and, and_true] at hx
  obtain ⟨⟨rfl, rfl, rfl⟩, _⟩ := hx
  have hc : Tryz.prog.cellsOf 3 = 1 := by kernel_rfl
  rw [hc] at c0 c1 c2
  have g0 := congrArg (·[0]?) c0
  have g1 := congrArg (·[0]?) c1
  have g2 := congrArg (·[0]?) c2
  simp [List.getElem?_drop] at g0 g1 g2
  exact ⟨g0, g1, g2⟩
set_option maxRecDepth 100000 in
theorem sh_of_laid {W : World} (h : laidMetH Tryz.prog Rows.typedBackUptoRow.laid W) : ∀ i, i < 9 → W.cell? ⟨13, i, none⟩ = some (.int .i64 (shL.getD i 0)) := by
  have h1 : laidMetH Tryz.prog [("crucible/ieee.shapes", Rows.laid_crucible_ieee_shapes)] W := h.filter (fun x => x.1 == "crucible/ieee.shapes")
  have h2 : laidMet Tryz.prog [("crucible/ieee.shapes", Rows.laid_crucible_ieee_shapes)] W := h1
  obtain ⟨ps, ⟨g', t', cs, fuel, p, q, hg', ht', hvar, hd, _, _⟩, _⟩ := h2
  obtain rfl := Option.some.inj ((show Tryz.prog.globalNamed "crucible/ieee.shapes" = some 13 by kernel_rfl).symm.trans hg')
  obtain rfl := Option.some.inj ((show (Tryz.prog.globals[13]?).map (·.type) = some 156 by kernel_rfl).symm.trans ht')
  obtain ⟨xs, m, _, ex, _, hl, hel⟩ := DataW.trod_array Tryz.underlying156 hd
  have hc : Tryz.prog.cellsOf 141 = 3 := by kernel_rfl
  rw [hc] at hel
  match xs, hl with
  | [y0, y1, y2], _ =>
    have e0 : DataW.trod (fun _ => ()) Tryz.prog W 0 (fun _ => true) false m 141 ((cs.toList.drop 0).take 3) = some y0 := hel 0 (by decide)
    have e1 : DataW.trod (fun _ => ()) Tryz.prog W 0 (fun _ => true) false m 141 ((cs.toList.drop 3).take 3) = some y1 := hel 1 (by decide)
    have e2 : DataW.trod (fun _ => ()) Tryz.prog W 0 (fun _ => true) false m 141 ((cs.toList.drop 6).take 3) = some y2 := hel 2 (by decide)
    obtain ⟨y0, p0⟩ := y0
    obtain ⟨y1, p1⟩ := y1
    obtain ⟨y2, p2⟩ := y2
    have hx : [y0, y1, y2] = [.agg [.lit (.int .i64 10), .lit (.int .i64 (-24)), .lit (.int .i64 5)], .agg [.lit (.int .i64 23), .lit (.int .i64 (-149)), .lit (.int .i64 8)], .agg [.lit (.int .i64 52), .lit (.int .i64 (-1074)), .lit (.int .i64 11)]] := by
      have := congrArg Prod.fst ex
      simp only [List.map_cons, List.map_nil] at this
      have e : Rows.laid_crucible_ieee_shapes = (.agg [.agg [.lit (.int .i64 10), .lit (.int .i64 (-24)), .lit (.int .i64 5)], .agg [.lit (.int .i64 23), .lit (.int .i64 (-149)), .lit (.int .i64 8)], .agg [.lit (.int .i64 52), .lit (.int .i64 (-1074)), .lit (.int .i64 11)]] : DataW Unit) := rfl
      rw [e] at this
      exact (DataW.agg.inj this).symm
    simp only [List.cons.injEq, and_true] at hx
    obtain ⟨rfl, rfl, rfl⟩ := hx
    obtain ⟨a0, a1, a2⟩ := three_of e0
    obtain ⟨b0, b1, b2⟩ := three_of e1
    obtain ⟨c0, c1, c2⟩ := three_of e2
    have hcell : ∀ i v, cs.toList[i]? = some v → W.cell? ⟨13, i, none⟩ = some v := fun i v hv => by
      have := World.var?_cell hg' hvar i
      rw [Array.getElem?_toList] at hv
      rw [hv] at this
      simpa using this
    intro i hi
    match i, hi with
    | 0, _ => exact hcell 0 _ a0
    | 1, _ => exact hcell 1 _ a1
    | 2, _ => exact hcell 2 _ a2
    | 3, _ => exact hcell 3 _ b0
    | 4, _ => exact hcell 4 _ b1
    | 5, _ => exact hcell 5 _ b2
    | 6, _ => exact hcell 6 _ c0
    | 7, _ => exact hcell 7 _ c1
    | 8, _ => exact hcell 8 _ c2

set_option maxRecDepth 100000 in
theorem gl_of_laid {W : World} (h : laidMetH Tryz.prog Rows.typedBackUptoRow.laid W) : ∃ sa, GL W.heap.size sa W := by
  obtain ⟨a1, s1, c1, t1, e1, f1, g1, k1⟩ := sent_1 h
  obtain ⟨a2, s2, c2, t2, e2, f2, g2, k2⟩ := sent_2 h
  obtain ⟨a3, s3, c3, t3, e3, f3, g3, k3⟩ := sent_3 h
  obtain ⟨a4, s4, c4, t4, e4, f4, g4, k4⟩ := sent_4 h
  obtain ⟨a5, s5, c5, t5, e5, f5, g5, k5⟩ := sent_5 h
  obtain ⟨a6, s6, c6, t6, e6, f6, g6, k6⟩ := sent_6 h
  obtain ⟨a7, s7, c7, t7, e7, f7, g7, k7⟩ := sent_7 h
  obtain ⟨a8, s8, c8, t8, e8, f8, g8, k8⟩ := sent_8 h
  obtain ⟨a9, s9, c9, t9, e9, f9, g9, k9⟩ := sent_9 h
  obtain ⟨a10, s10, c10, t10, e10, f10, g10, k10⟩ := sent_10 h
  obtain ⟨a11, s11, c11, t11, e11, f11, g11, k11⟩ := sent_11 h
  let sa : Nat → Addr := fun c => match c with
    | 1 => a1 | 2 => a2 | 3 => a3 | 4 => a4 | 5 => a5 | 6 => a6 | 7 => a7 | 8 => a8 | 9 => a9 | 10 => a10 | _ => a11
  have hall : ∀ c, 1 ≤ c → c ≤ 11 → W.cell? ⟨gerr c, 0, none⟩ = some (sent sa c) ∧ (∃ s, W.cell? (sa c) = some (.string s) ∧ s.data.toList = textE c) ∧ ∃ ca ta, W.heap[(sa c).block]? = some (.cells ca ta (0, 0)) := by
    intro c h1 h2
    match c, h1, h2 with
    | 1, _, _ => exact ⟨e1, ⟨s1, f1, g1⟩, c1, t1, k1⟩
    | 2, _, _ => exact ⟨e2, ⟨s2, f2, g2⟩, c2, t2, k2⟩
    | 3, _, _ => exact ⟨e3, ⟨s3, f3, g3⟩, c3, t3, k3⟩
    | 4, _, _ => exact ⟨e4, ⟨s4, f4, g4⟩, c4, t4, k4⟩
    | 5, _, _ => exact ⟨e5, ⟨s5, f5, g5⟩, c5, t5, k5⟩
    | 6, _, _ => exact ⟨e6, ⟨s6, f6, g6⟩, c6, t6, k6⟩
    | 7, _, _ => exact ⟨e7, ⟨s7, f7, g7⟩, c7, t7, k7⟩
    | 8, _, _ => exact ⟨e8, ⟨s8, f8, g8⟩, c8, t8, k8⟩
    | 9, _, _ => exact ⟨e9, ⟨s9, f9, g9⟩, c9, t9, k9⟩
    | 10, _, _ => exact ⟨e10, ⟨s10, f10, g10⟩, c10, t10, k10⟩
    | 11, _, _ => exact ⟨e11, ⟨s11, f11, g11⟩, c11, t11, k11⟩
  have htz : ∀ i, i < 64 → W.cell? ⟨14, i, none⟩ = some (.int .u8 (tzL.getD i 0 : Nat)) := fun i hi => by
    have h1 := (tz_of_laid h).cell (g := 14) (by kernel_rfl) i (by simpa [tzL] using hi)
    rw [h1, List.getD_eq_getElem?_getD, List.getElem?_map, List.getD_eq_getElem?_getD]
    cases tzL[i]? <;> rfl
  have hkd : ∀ i, i < 23 → W.cell? ⟨11, i, none⟩ = some (.int .i8 (kdL.getD i 0 : Nat)) := fun i hi => by
    have h1 := (kd_of_laid h).cell (g := 11) (by kernel_rfl) i (by simpa [kdL] using hi)
    rw [h1, List.getD_eq_getElem?_getD, List.getElem?_map, List.getD_eq_getElem?_getD]
    cases kdL[i]? <;> rfl
  refine ⟨sa, Nat.le_refl _, ?_, fun c h1 h2 => (hall c h1 h2).1, fun c h1 h2 => ⟨?_, (hall c h1 h2).2.2⟩, ?_, htz, sh_of_laid h, hkd, pw_of_laid h⟩
  · have h1 := World.block_lt_of_cell? W _ ((pw_of_laid h).cell (g := 15) (by kernel_rfl) 0 (by decide))
    exact h1
  · obtain ⟨s, hs, _⟩ := (hall c h1 h2).2.1
    exact World.block_lt_of_cell? W _ hs
  · intro c c' h1 h2 h3 h4 e
    obtain ⟨s, hs, ht⟩ := (hall c h1 h2).2.1
    obtain ⟨s', hs', ht'⟩ := (hall c' h3 h4).2.1
    rw [e, hs'] at hs
    have es : s' = s := by simpa using hs
    have et : textE (c - 1 + 1) = textE (c' - 1 + 1) := by rw [show c - 1 + 1 = c by omega, show c' - 1 + 1 = c' by omega, ← ht, ← ht', es]
    have h5 := List.all_eq_true.1 (List.all_eq_true.1 textE_inj (c - 1) (List.mem_range.2 (by omega))) (c' - 1) (List.mem_range.2 (by omega))
    simp only [Bool.or_eq_true, decide_eq_true_eq, Bool.not_eq_true', decide_eq_false_iff_not] at h5
    rcases h5 with h5 | h5
    · omega
    · exact absurd et h5
end Go.Proofs.YteekndchkgdccaaGreatDoor

/- What a row of this seat asks: what a law that leaves all memory leaves; what an argument's bulk bounds. -/
namespace Go.Proofs.YteekndchkgdccaaGreatDoor
open Go.ChangeShapes Go.WideShapes Go.ChangeAt Go.RowKit

section
variable {H : Type} {enc : TypeId × Value → H}
theorem trodAll_below {P : Program} (hl : laidOutB P = true) {W W' : World} (hb : Below W.heap.size W W') :
    ∀ {ts : List TypeId} {vs : List Value} {ds : List (DataW H)} {ps : List MemPlace}, (∀ t ∈ ts, P.readableRec t = true ∧ t < P.types.size) → (∀ x ∈ ps, x.block < W.heap.size) →
      DataW.TrodAll enc P W 0 (fun _ => true) true ts vs ds ps → DataW.TrodAll enc P W' 0 (fun b => decide (b < W.heap.size)) true ts vs ds ps
  | [], _, _, _, _, _, h => by
    obtain ⟨rfl, rfl, rfl⟩ := trodAll_nil h
    exact trodAll_mk0
  | t :: ts, _, _, _, ht, hlt, h => by
    obtain ⟨v, vs1, d, ds1, a, b, rfl, rfl, rfl, h1, h2⟩ := trodAll_cons h
    obtain ⟨r1, r2⟩ := ht t (List.mem_cons_self)
    exact trodAll_cons_mk (Below.trod hl r1 r2 h1 hb (fun x hx => hlt x (List.mem_append_left _ hx))) (trodAll_below hl hb (fun t h => ht t (List.mem_cons_of_mem _ h)) (fun x hx => hlt x (List.mem_append_right _ hx)) h2)

/-- A law that answers true and leaves all memory that there was. -/
theorem law_post {f : Func} {s : ChangeSpec} {W W' : World} {args : Array Value} {ds gs : List (DataW H)} {before : List MemPlace}
    (hW : DataW.Whole enc Tryz.prog f.params.toList s.vars false W args.toList ds gs before) (hvars : s.vars = [])
    (hres : (s.fn H ds).results = [.lit (.bool true)]) (hargs : (s.fn H ds).args = ds) (hv : (s.fn H ds).vars = []) (hr : f.resultTypes = #[4])
    (hts : ∀ t ∈ f.params.toList, Tryz.prog.readableRec t = true ∧ t < Tryz.prog.types.size) (hb : Below W.heap.size W W') : s.post enc Tryz.prog f false true false false W args (.bool true) W' := by
  have hW0 := hW
  obtain ⟨p, q, hA, hV, e, hfz, hnd⟩ := hW
  rw [hvars] at hV
  obtain ⟨rfl, rfl⟩ := trodVars_none hV
  rw [List.append_nil] at e
  subst e
  refine ⟨ds, [], before, [], before, [], hW0, ?_, ?_, ?_, hb.frame _, fun h => by cases h⟩
  · rw [List.append_nil, hres, hr]
    exact trodAll_cons_mk (shut_bool Tryz.underlying4 _) trodAll_mk0
  · rw [List.append_nil, hargs]
    exact trodAll_below (by kernel_rfl) hb hts (fun x hx => by simpa using hW0.lt x hx) hA
  · rw [List.append_nil, hv, hvars]
    exact rfl
end
theorem own : ownKnob Tryz.prog.godebug = none := by kernel_rfl
end Go.Proofs.YteekndchkgdccaaGreatDoor

/- cruciblelaw01.SameInt64s of one list in two places. -/
namespace Go.Proofs.YteekndchkgdccaaGreatDoor
open Go.RowKit

/-- an int64 -/
def E64 : El Int where
  sz := 1
  pos := by decide
  cells := fun z => [.int .i64 z]
  len := fun _ => rfl
  one := fun x v h => by simp at h; subst h; rfl
  val := fun z => .int .i64 z
theorem sl64_cell {w : World} {b o c i : Nat} {x : Int} {xs : List Int} (h : Sl E64 w (some ⟨b, o, none⟩) c xs) (hi : i < xs.length) (hx : xs.getD i 0 = x) : w.cell? ⟨b, o + i, none⟩ = some (.int .i64 x) := by
  obtain ⟨b1, o1, e1, hr⟩ := h.elem (i := i) hi
  simp only [Option.some.injEq, Addr.mk.injEq, and_true] at e1
  obtain ⟨rfl, rfl⟩ := e1
  have h1 := hr 0 _ rfl
  simp only [E64, Nat.add_zero, Nat.mul_one] at h1
  rw [h1, show xs[i] = x by rw [← hx, List.getD_eq_getElem?_getD, List.getElem?_eq_getElem hi]; rfl]
set_option maxRecDepth 100000 in
theorem same64_ok (A A' : Option Addr) (c c' n : Nat) (l : List Int) (w : World) (hn : l.length = n) (h : Sl E64 w A c l) (h' : Sl E64 w A' c' l) :
    Calls Tryz.prog 10 #[.slice A n c, .slice A' n c'] w fun e w' => e = .returned (.bool true) ∧ Keep nob w w' := by
  have hle := h.le
  have hcc := h.cap
  rw [hn] at hle
  have H := Lib.hid h
  have H' := Lib.hid h'
  have HN := Lib.hid hn
  clear h h' hn
  go_enter Tryz.func10, Tryz.ntmps10
  go_wp2
  go_loopw [5] (fun u5 wr => ∃ i : Nat, i ≤ n ∧ u5 = .int .i64 (i : Int) ∧ Hid (Keep nob w wr)) (fun u5 _ => n - (intOf u5).toNat)
  case atStart => exact ⟨0, Nat.zero_le _, rfl, Lib.hid (Keep.refl _ _)⟩
  case round =>
    obtain ⟨i, hi, rfl, HK⟩ := hrel
    rcases Nat.lt_or_ge i n with hlt | hge
    · have hd : decide ((i : Int) < (n : Int)) = true := by rw [decide_eq_true_iff]; omega
      have hi0 : (0 : Int) ≤ (i : Int) := by omega
      have hi1 : (i : Int) < (n : Int) := by omega
      have j5 : IntKind.i64.wrap ((i : Int) + 1) = (i : Int) + 1 := by rw [IntWalk.i64_left, IntWalk.wrap64_in _ ⟨by omega, by omega⟩]
      obtain ⟨x, HX⟩ : ∃ x, Hid (l.getD i 0 = x) := ⟨_, Lib.hid rfl⟩
      have hln : l ≠ [] := fun e => by have := HN.out; rw [e] at this; simp at this; omega
      obtain ⟨b, o, rfl, -⟩ := H.out.at_ hln
      obtain ⟨b', o', rfl, -⟩ := H'.out.at_ hln
      have HCE : Hid (∀ w', Kept wr w' → w'.cell? ⟨b, o + i, none⟩ = some (.int .i64 x) ∧ w'.cell? ⟨b', o' + i, none⟩ = some (.int .i64 x)) := Lib.hid (fun w' hk =>
        ⟨sl64_cell (H.out.keep (HK.out.then_ hk) (fun ⟨_, _, h⟩ => h)) (by rw [HN.out]; exact hlt) HX.out, sl64_cell (H'.out.keep (HK.out.then_ hk) (fun ⟨_, _, h⟩ => h)) (by rw [HN.out]; exact hlt) HX.out⟩)
      clear hln
      go_upto_region 6 with (fail)
      refine wp_region_kept (by kernel_rfl) (by kernel_rfl) (QV.out ?_)
      repeat (first
        | (refine kq_skip (by rfl) (fun K hK => ?_); go_simp; refine hK _ ?_; clear hK K)
        | (refine kq_want (by rfl) (fun K hK => ?_); first
            | (refine BigFrame.quiet_move _ rfl ?_; go_simp; refine hK _ ?_; clear hK K)
            | (refine kq_still ?_ (fun w' hw' => ?_) ?_; rotate_left; (obtain ⟨c1, c2⟩ := HCE.out w' hw'; go_simp; first | done | exact rfl); go_simp; refine hK _ ?_; clear hK K)
            | (go_simp; apply Exists.intro; refine ⟨fun w' hw' => ?_, hK _ ?_⟩; (first | (fail)); rintro e w'' ⟨rfl, hk''⟩; exact ⟨rfl, hw'.then_ hk''⟩; clear hK K)))
      refine ⟨wpQuiet_nil ?_⟩
      intro w9 hk9
      have HK9 := Lib.hid (HK.out.then_ hk9)
      clear hk9
      go_wp2
      exact ⟨⟨i + 1, by omega, rfl, HK9⟩, by simp [intOf]; omega⟩
    · obtain rfl : i = n := by omega
      have hd : decide ((i : Int) < (i : Int)) = false := by rw [decide_eq_false_iff_not]; omega
      go_wp2
      go_ret
      exact ⟨rfl, HK.out⟩
end Go.Proofs.YteekndchkgdccaaGreatDoor

/- An element of a typed array: a value, a float, whether it is wrong. -/
namespace Go.Proofs.YteekndchkgdccaaGreatDoor
open Go.RowKit

/-- an element's ten cells: the value's eight, the float's bits, a mark -/
structure Elm where
  r : Raw
  x : Nat
  wrong : Bool
def EE : El Elm where
  sz := 10
  pos := by decide
  cells := fun e => ER.cells e.r ++ [.float .f64 e.x, .bool e.wrong]
  len := fun _ => rfl
  one := fun e v h => by
    rcases List.mem_append.1 h with h | h
    · exact ER.one e.r v h
    · simp at h
      rcases h with rfl | rfl <;> rfl
  val := fun e => .agg #[.int .i8 (e.r.kind : Int), .int .u64 (e.r.n : Int), .bool e.r.neg, .slice e.r.mA e.r.mL e.r.mC, .int .u64 (e.r.bits : Int), .int .i8 e.r.ext, .string e.r.text, .slice e.r.kA e.r.kL e.r.kC, .float .f64 e.x, .bool e.wrong]
theorem elm_cells {w : World} {b o : Nat} {e : Elm} (h : w.rangeAt b o (EE.cells e)) : w.rangeAt b o (ER.cells e.r) ∧ w.cell? ⟨b, o + 8, none⟩ = some (.float .f64 e.x) ∧ w.cell? ⟨b, o + 9, none⟩ = some (.bool e.wrong) := by
  have h1 := (range_app (w := w) (b := b) (o := o) (xs := ER.cells e.r) (ys := [.float .f64 e.x, .bool e.wrong])).1 h
  exact ⟨h1.1, h 8 _ rfl, h 9 _ rfl⟩
end Go.Proofs.YteekndchkgdccaaGreatDoor

/- slices.Index in the table of the kinds. -/
namespace Go.Proofs.YteekndchkgdccaaGreatDoor
open Go.RowKit

set_option maxRecDepth 100000 in
theorem index_ok (e : Int) (i0 : Nat) (B : Nat) (sa : Nat → Addr) (w : World) (g : GL B sa w) (h0 : i0 < 23) (he : ((kdL.getD i0 0 : Nat) : Int) = e) (hf : ∀ j, j < i0 → ((kdL.getD j 0 : Nat) : Int) ≠ e) :
    Calls Tryz.prog 34 #[.slice (some ⟨11, 0, none⟩) 23 23, .int .i8 e] w fun E w' => E = .returned (.int .i64 (i0 : Int)) ∧ w' = w := by
  have HG := Lib.hid g
  have HE := Lib.hid he
  have HF := Lib.hid hf
  clear g he hf
  go_enter Tryz.func34, Tryz.ntmps34
  go_wp2
  go_loop [8] (fun u8 => ∃ i : Nat, i ≤ i0 ∧ u8 = .int .i64 (i : Int)) (fun u8 => i0 - (intOf u8).toNat)
  case atStart => exact ⟨0, Nat.zero_le _, rfl⟩
  case round =>
    obtain ⟨i, hi, rfl⟩ := hrel
    have hc := HG.out.kd i (by omega)
    obtain ⟨x, HX⟩ : ∃ x : Int, Hid (((kdL.getD i 0 : Nat) : Int) = x) := ⟨_, Lib.hid rfl⟩
    rw [HX.out] at hc
    have q0 : (0 : Int) ≤ (i : Int) := by omega
    have q1 : (i : Int) < 23 := by omega
    have d1 : decide ((i : Int) < 23) = true := by rw [decide_eq_true_iff]; omega
    have j1 : IntKind.i64.wrap ((i : Int) + 1) = (i : Int) + 1 := by rw [IntWalk.i64_left, IntWalk.wrap64_in _ ⟨by omega, by omega⟩]
    rcases Nat.lt_or_ge i i0 with hlt | hge
    · have hb : (e == x) = false := by
        rw [beq_eq_false_iff_ne, ← HX.out]
        exact fun h => HF.out i hlt h.symm
      go_wp2
      exact ⟨⟨i + 1, hlt, rfl⟩, by simp [intOf]; omega⟩
    · obtain rfl : i = i0 := by omega
      have hb : (e == x) = true := by rw [beq_iff_eq, ← HX.out, HE.out]
      go_wp2
      go_ret
      exact ⟨rfl, rfl⟩
end Go.Proofs.YteekndchkgdccaaGreatDoor

/- A document within other bytes: read there as alone, unless it is too deep there. Plain Lean. -/
namespace Go.Proofs.YteekndchkgdccaaGreatDoor
variable (D : Words)

mutual
/-- how deep a value is nested -/
def depV : V → Nat
  | .mk k _ _ _ _ _ _ kids => if k = 7 ∨ k = 8 ∨ k = 9 then depL kids + 1 else 0
def depL : List V → Nat
  | [] => 0
  | v :: l => max (depV v) (depL l)
end
theorem depL_nil : depL [] = 0 := by unfold depL; rfl
theorem depL_cons (v : V) (l : List V) : depL (v :: l) = max (depV v) (depL l) := by rw [depL]
theorem depL_app : ∀ (l l' : List V), depL (l ++ l') = max (depL l) (depL l')
  | [], l' => by rw [List.nil_append, depL_nil]; omega
  | v :: l, l' => by rw [List.cons_append, depL_cons, depL_cons, depL_app l l']; omega
theorem depL_ins (acc : List V) (m : Nat) (key x : V) : depL (insN acc m key x) = max (depL acc) (max (depV key) (depV x)) := by
  have h : depL acc = max (depL (acc.take (2 * m))) (depL (acc.drop (2 * m))) := by rw [← depL_app, List.take_append_drop]
  unfold insN
  rw [depL_app, depL_cons, depL_cons, h]
  omega
/-- words for values that hold none -/
structure Flat (D : Words) : Prop where
  whole : ∀ n, depV (D.whole n) = 0
  below : ∀ n, depV (D.below n) = 0
  single : ∀ n, depV (D.single n) = 0
  double : ∀ n, depV (D.double n) = 0
  twos : ∀ t, depV (D.twos t) = 0

/-- the bytes d lie in s', k further on -/
structure Shift (d s : ByteArray) (k : Nat) : Prop where
  sz : k + d.size ≤ s.size
  ex : ∀ p n, p + n ≤ d.size → s.extract (k + p) (k + p + n) = d.extract p (p + n)
theorem Shift.mk' (a d b : ByteArray) : Shift d (a ++ d ++ b) a.size := by
  refine ⟨by rw [ByteArray.size_append, ByteArray.size_append]; omega, fun p n h => ?_⟩
  apply ByteArray.ext
  simp only [ByteArray.data_extract, ByteArray.data_append]
  apply Array.ext'
  simp only [Array.toList_extract, Array.toList_append, List.extract_eq_take_drop]
  have ha : a.size = a.data.toList.length := rfl
  have hd : d.size = d.data.toList.length := rfl
  rw [List.append_assoc, ha, ← List.drop_drop, List.drop_left' rfl, List.drop_append_of_le_length (by omega), List.take_append_of_le_length (by rw [List.length_drop]; omega)]
  congr 1
  omega
theorem Shift.first (d b : ByteArray) : Shift d (d ++ b) 0 := by
  have := Shift.mk' ByteArray.empty d b
  rwa [ByteArray.empty_append] at this
theorem Shift.last (a d : ByteArray) : Shift d (a ++ d) a.size := by
  have := Shift.mk' a d ⟨#[]⟩
  have e : a ++ d ++ ⟨#[]⟩ = a ++ d := ByteArray.append_empty
  rwa [e] at this

section
variable {D} {d s : ByteArray} {k : Nat} (S : Shift d s k)
include S
theorem take_shift {p n q : Nat} {t : ByteArray} (hp : p ≤ d.size) (h : takeR d p n = .ok t q) : takeR s (k + p) n = .ok t (k + q) ∧ q ≤ d.size := by
  have hz := S.sz
  unfold takeR at h ⊢
  split at h
  · cases h
  · rename_i hn
    simp only [R.ok.injEq] at h
    obtain ⟨rfl, rfl⟩ := h
    rw [if_neg (by omega), S.ex p n (by omega), Nat.add_assoc]
    exact ⟨rfl, by omega⟩
theorem text_shift {p n q : Nat} {t : ByteArray} (hp : p ≤ d.size) (h : textR d p n = .ok t q) : textR s (k + p) n = .ok t (k + q) ∧ q ≤ d.size := by
  have hz := S.sz
  unfold textR at h
  split at h
  · cases h
  · rename_i hn
    have h2 := take_shift S hp h
    have hle : n ≤ d.size - p := by
      unfold takeR at h
      split at h
      · cases h
      · omega
    unfold textR
    have e1 : min n (d.size - p) = n := by omega
    have e2 : min n (s.size - (k + p)) = n := by omega
    rw [e1] at hn
    rw [e2, S.ex p n (by omega)]
    have hl : (bl (d.extract p (p + n))).length = n := by rw [bl_len, ByteArray.size_extract]; omega
    have h3 := scan_none (m := d.size - p) (m' := s.size - (k + p)) (l := bl (d.extract p (p + n))) (n := n) n (by omega) (by omega) (by rw [List.length_take]; omega) (fun q hq => by rw [hn] at hq; cases hq)
    rw [List.take_of_length_le (by omega)] at h3
    rw [h3]
    exact h2
end

/-- x is what is read k further on, with room for D' containers, where v ends at q -/
def Sh (k D' : Nat) (v : V) (q : Nat) (x : R V) : Prop := (depV v ≤ D' → x = .ok v (k + q)) ∧ (D' < depV v → ∃ r, x = .bad 5 r)
theorem Sh.flat {k D' q : Nat} {v : V} {x : R V} (h0 : depV v = 0) (h : x = .ok v (k + q)) : Sh k D' v q x := ⟨fun _ => h, fun h' => by omega⟩
section
variable {D} {z k D' : Nat} {it it' : Nat → R V} (hit : ∀ p v q, p ≤ z → it p = .ok v q → q ≤ z ∧ Sh k D' v q (it' (k + p)))
include hit
theorem rounds_shift : ∀ (n p : Nat) (acc l : List V) (q : Nat), p ≤ z → roundsN it n p acc = .ok l q → q ≤ z ∧ ∃ m, l = acc ++ m ∧ m.length = n ∧ (depL m ≤ D' → roundsN it' n (k + p) acc = .ok l (k + q)) ∧ (D' < depL m → ∃ r, roundsN it' n (k + p) acc = .bad 5 r)
  | 0, p, acc, l, q, hp, h => by
    simp only [roundsN, R.ok.injEq] at h
    obtain ⟨rfl, rfl⟩ := h
    exact ⟨hp, [], by simp, rfl, fun _ => rfl, fun h => by rw [depL_nil] at h; omega⟩
  | n + 1, p, acc, l, q, hp, h => by
    simp only [roundsN] at h ⊢
    cases hi : it p with
    | bad c r => rw [hi] at h; cases h
    | ok v p1 =>
      rw [hi] at h
      obtain ⟨hp1, h1, h2⟩ := hit p v p1 hp hi
      obtain ⟨hq, m, rfl, hm, h3, h4⟩ := rounds_shift n p1 (acc ++ [v]) l q hp1 h
      refine ⟨hq, v :: m, by simp, by simp [hm], fun hd => ?_, fun hd => ?_⟩
      · rw [depL_cons] at hd
        rw [h1 (by omega)]
        exact h3 (by omega)
      · rw [depL_cons] at hd
        rcases Nat.lt_or_ge D' (depV v) with hv | hv
        · obtain ⟨r, hr⟩ := h2 hv
          exact ⟨r, by rw [hr]; rfl⟩
        · rw [h1 hv]
          exact h4 (by omega)
theorem pairs_shift : ∀ (n p : Nat) (acc l : List V) (q : Nat), p ≤ z → pairsN D it n p acc = .ok l q → q ≤ z ∧ ∃ m, depL l = max (depL acc) (depL m) ∧ (depL m ≤ D' → pairsN D it' n (k + p) acc = .ok l (k + q)) ∧ (D' < depL m → ∃ r, pairsN D it' n (k + p) acc = .bad 5 r)
  | 0, p, acc, l, q, hp, h => by
    simp only [pairsN, R.ok.injEq] at h
    obtain ⟨rfl, rfl⟩ := h
    exact ⟨hp, [], by rw [depL_nil]; omega, fun _ => rfl, fun h => by rw [depL_nil] at h; omega⟩
  | n + 1, p, acc, l, q, hp, h => by
    simp only [pairsN] at h ⊢
    cases hi : it p with
    | bad c r => rw [hi] at h; cases h
    | ok v p1 =>
      rw [hi] at h
      obtain ⟨hp1, h1, h2⟩ := hit p v p1 hp hi
      simp only [R.bind] at h
      split at h
      · cases h
      rename_i hdup
      cases hj : it p1 with
      | bad c r => rw [hj] at h; cases h
      | ok x p2 =>
        rw [hj] at h
        obtain ⟨hp2, h5, h6⟩ := hit p1 x p2 hp1 hj
        obtain ⟨hq, m, hdl, h3, h4⟩ := pairs_shift n p2 _ l q hp2 h
        refine ⟨hq, v :: x :: m, by rw [hdl, depL_ins, depL_cons, depL_cons]; omega, fun hd => ?_, fun hd => ?_⟩
        · rw [depL_cons, depL_cons] at hd
          rw [h1 (by omega)]
          simp only [R.bind]
          rw [if_neg hdup, h5 (by omega)]
          exact h3 (by omega)
        · rw [depL_cons, depL_cons] at hd
          rcases Nat.lt_or_ge D' (depV v) with hv | hv
          · obtain ⟨r, hr⟩ := h2 hv
            exact ⟨r, by rw [hr]; rfl⟩
          · rw [h1 hv]
            simp only [R.bind]
            rw [if_neg hdup]
            rcases Nat.lt_or_ge D' (depV x) with hx | hx
            · obtain ⟨r, hr⟩ := h6 hx
              exact ⟨r, by rw [hr]⟩
            · rw [h5 hx]
              exact h4 (by omega)
end

/-- what is read within, so many containers more may be open -/
def inD (s : ByteArray) : Nat → Option (Nat → R V)
  | 0 => none
  | n + 1 => some (itemN D s n)
theorem itemN_inD (s : ByteArray) (n p : Nat) : itemN D s n p = itemF D s (inD D s n) p := by cases n <;> rfl
section
variable {D} {d s : ByteArray} {k : Nat} (S : Shift d s k) (F : Flat D)
include S F
theorem fam_shift {n0 D' : Nat} (hin : ∀ m E, n0 = m + 1 → D' = E + 1 → ∀ p v q, p ≤ d.size → itemN D d m p = .ok v q → q ≤ d.size ∧ Sh k E v q (itemN D s E (k + p)))
    (hin0 : ∀ m, n0 = m + 1 → ∀ p v q, p ≤ d.size → itemN D d m p = .ok v q → q ≤ d.size)
    (fr fr' : Nat) (f : Fam) (n p : Nat) (hp : p ≤ d.size) {v : V} {q : Nat} (h : famR D d (inD D d n0) fr f n p = .ok v q) : q ≤ d.size ∧ Sh k D' v q (famR D s (inD D s D') fr' f n (k + p)) := by
  cases f with
  | word => simp only [famR, R.ok.injEq] at h ⊢; obtain ⟨rfl, rfl⟩ := h; exact ⟨hp, Sh.flat (by split <;> simp [V.nul, V.boo, depV]) rfl⟩
  | whole => simp only [famR, R.ok.injEq] at h ⊢; obtain ⟨rfl, rfl⟩ := h; exact ⟨hp, Sh.flat (F.whole _) rfl⟩
  | below => simp only [famR, R.ok.injEq] at h ⊢; obtain ⟨rfl, rfl⟩ := h; exact ⟨hp, Sh.flat (F.below _) rfl⟩
  | single => simp only [famR, R.ok.injEq] at h ⊢; obtain ⟨rfl, rfl⟩ := h; exact ⟨hp, Sh.flat (F.single _) rfl⟩
  | double => simp only [famR, R.ok.injEq] at h ⊢; obtain ⟨rfl, rfl⟩ := h; exact ⟨hp, Sh.flat (F.double _) rfl⟩
  | signed =>
    simp only [famR] at h ⊢
    cases ht : takeR d p n with
    | bad c r => rw [ht] at h; cases h
    | ok t p1 =>
      rw [ht] at h
      simp only [R.bind, R.ok.injEq] at h
      obtain ⟨rfl, rfl⟩ := h
      obtain ⟨e, hq⟩ := take_shift S hp ht
      exact ⟨hq, Sh.flat (F.twos _) (by rw [e]; rfl)⟩
  | bytes =>
    simp only [famR] at h ⊢
    cases ht : takeR d p n with
    | bad c r => rw [ht] at h; cases h
    | ok t p1 =>
      rw [ht] at h
      simp only [R.bind, R.ok.injEq] at h
      obtain ⟨rfl, rfl⟩ := h
      obtain ⟨e, hq⟩ := take_shift S hp ht
      exact ⟨hq, Sh.flat (by simp [V.byt, depV]) (by rw [e]; rfl)⟩
  | text =>
    simp only [famR] at h ⊢
    cases ht : textR d p n with
    | bad c r => rw [ht] at h; cases h
    | ok t p1 =>
      rw [ht] at h
      simp only [R.bind, R.ok.injEq] at h
      obtain ⟨rfl, rfl⟩ := h
      obtain ⟨e, hq⟩ := text_shift S hp ht
      exact ⟨hq, Sh.flat (by simp [V.tex, depV]) (by rw [e]; rfl)⟩
  | ext =>
    simp only [famR] at h ⊢
    cases ht : takeR d p 1 with
    | bad c r => rw [ht] at h; cases h
    | ok t p1 =>
      rw [ht] at h
      simp only [R.bind] at h
      obtain ⟨e, hp1⟩ := take_shift S hp ht
      cases hu : takeR d p1 n with
      | bad c r => rw [hu] at h; cases h
      | ok u p2 =>
        rw [hu] at h
        simp only [R.ok.injEq] at h
        obtain ⟨rfl, rfl⟩ := h
        obtain ⟨e2, hq⟩ := take_shift S hp1 hu
        refine ⟨hq, Sh.flat (by simp [V.xt, depV]) ?_⟩
        rw [e]
        simp only [R.bind]
        rw [e2]
  | list =>
    cases n0 with
    | zero => cases h
    | succ m =>
      simp only [famR, inD] at h
      cases ht : roundsN (itemN D d m) n p [] with
      | bad c r => rw [ht] at h; cases h
      | ok l p1 =>
        rw [ht] at h
        simp only [R.bind, R.ok.injEq] at h
        obtain ⟨rfl, rfl⟩ := h
        have hdep : depV (V.lis l) = depL l + 1 := by simp [V.lis, depV]
        cases D' with
        | zero =>
          refine ⟨?_, fun h => by omega, fun _ => ⟨fr', rfl⟩⟩
          exact (rounds_shift (k := 0) (D' := 0) (it' := fun p => match itemN D d m p with | .ok v q => if depV v = 0 then .ok v q else .bad 5 0 | .bad c r => .bad c r) (fun p v q hp hv => ⟨hin0 m rfl p v q hp hv, fun h0 => by
            simp only [Nat.zero_add, hv]; rw [if_pos (by omega)], fun h0 => by simp only [Nat.zero_add, hv]; rw [if_neg (by omega)]; exact ⟨0, rfl⟩⟩) n p [] l p1 hp ht).1
        | succ E =>
          obtain ⟨hq, m', hl, -, h3, h4⟩ := rounds_shift (fun p v q hp hv => hin m E rfl rfl p v q hp hv) n p [] l p1 hp ht
          rw [List.nil_append] at hl
          subst hl
          refine ⟨hq, fun hd => ?_, fun hd => ?_⟩
          · simp only [famR, inD]
            rw [h3 (by omega)]
            rfl
          · obtain ⟨r, hr⟩ := h4 (by omega)
            exact ⟨r, by simp only [famR, inD]; rw [hr]; rfl⟩
  | pairs =>
    cases n0 with
    | zero => cases h
    | succ m =>
      simp only [famR, inD] at h
      cases ht : pairsN D (itemN D d m) n p [] with
      | bad c r => rw [ht] at h; cases h
      | ok l p1 =>
        rw [ht] at h
        simp only [R.bind, R.ok.injEq] at h
        obtain ⟨rfl, rfl⟩ := h
        have hdep : depV (V.map l) = depL l + 1 := by simp [V.map, depV]
        cases D' with
        | zero =>
          refine ⟨?_, fun h => by omega, fun _ => ⟨fr', rfl⟩⟩
          exact (pairs_shift (k := 0) (D' := 0) (it' := fun p => match itemN D d m p with | .ok v q => if depV v = 0 then .ok v q else .bad 5 0 | .bad c r => .bad c r) (fun p v q hp hv => ⟨hin0 m rfl p v q hp hv, fun h0 => by
            simp only [Nat.zero_add, hv]; rw [if_pos (by omega)], fun h0 => by simp only [Nat.zero_add, hv]; rw [if_neg (by omega)]; exact ⟨0, rfl⟩⟩) n p [] l p1 hp ht).1
        | succ E =>
          obtain ⟨hq, m', hl, h3, h4⟩ := pairs_shift (fun p v q hp hv => hin m E rfl rfl p v q hp hv) n p [] l p1 hp ht
          rw [depL_nil] at hl
          refine ⟨hq, fun hd => ?_, fun hd => ?_⟩
          · simp only [famR, inD]
            rw [h3 (by omega)]
            rfl
          · obtain ⟨r, hr⟩ := h4 (by omega)
            exact ⟨r, by simp only [famR, inD]; rw [hr]; rfl⟩
theorem itemF_shift (n0 D' : Nat) (hin : ∀ m E, n0 = m + 1 → D' = E + 1 → ∀ p v q, p ≤ d.size → itemN D d m p = .ok v q → q ≤ d.size ∧ Sh k E v q (itemN D s E (k + p)))
  (hin0 : ∀ m, n0 = m + 1 → ∀ p v q, p ≤ d.size → itemN D d m p = .ok v q → q ≤ d.size) (p : Nat) (v : V) (q : Nat) (hp : p ≤ d.size) (h : itemF D d (inD D d n0) p = .ok v q) :
    q ≤ d.size ∧ Sh k D' v q (itemF D s (inD D s D') (k + p)) := by
  unfold itemF at h ⊢
  cases ht : takeR d p 1 with
  | bad c r => rw [ht] at h; cases h
  | ok t p1 =>
    rw [ht] at h
    obtain ⟨e, hp1⟩ := take_shift S hp ht
    rw [e]
    simp only [R.bind] at h ⊢
    cases hpk : pickN ((bl t).headD 0) with
    | none => rw [hpk] at h; cases h
    | some x =>
      obtain ⟨f, n, w⟩ := x
      rw [hpk] at h
      simp only at h ⊢
      by_cases hw : w = 0
      · rw [if_pos hw] at h ⊢
        exact fam_shift S F hin hin0 _ _ f n p1 hp1 h
      · rw [if_neg hw] at h ⊢
        cases hu : takeR d p1 w with
        | bad c r => rw [hu] at h; cases h
        | ok u p2 =>
          rw [hu] at h
          obtain ⟨e2, hp2⟩ := take_shift S hp1 hu
          rw [e2]
          exact fam_shift S F hin hin0 _ _ f _ p2 hp2 h
theorem item_shift : ∀ (n0 D' p : Nat) (v : V) (q : Nat), p ≤ d.size → itemN D d n0 p = .ok v q → q ≤ d.size ∧ Sh k D' v q (itemN D s D' (k + p)) := by
  intro n0
  induction n0 with
  | zero =>
    intro D' p v q hp h
    rw [itemN_inD] at h ⊢
    exact itemF_shift S F 0 D' (fun m E h => by omega) (fun m h => by omega) p v q hp h
  | succ n0 ih =>
    intro D' p v q hp h
    rw [itemN_inD] at h ⊢
    exact itemF_shift S F (n0 + 1) D' (fun m E h1 h2 p v q hp hv => (by have e : n0 = m := (by omega); subst e; exact ih E p v q hp hv))
      (fun m h1 p v q hp hv => (by have e : n0 = m := (by omega); subst e; exact (ih 0 p v q hp hv).1)) p v q hp h
end
end Go.Proofs.YteekndchkgdccaaGreatDoor
