/- Regions that draw their order and whose operations and calls keep all memory that there was: one walk in the order of the text. -/
import Derived.Test.YtnofckgnnpmiiaaFr
import Derived.Deep.Quiet
import Derived.BigQuiet
namespace Go.Proofs.Ytnofckgnnpmiiaa
open Go.RowKit Go.Shelf

/-- a walk behind a name: Lean's unifier else reckons on through operations that are not wanted -/
structure QV (p : Prop) : Prop where
  out : p
abbrev Kept (w w' : World) : Prop := Keep (fun _ => False) w w'
section
variable {P : Program} {Q : Exit → Act → World → Prop}
theorem wp_region_kept {id : Nat} {a : Act} {w : World} {l : List Oper} (hm : P.follows .mixedOrders = true) (hB : Region.lexB .any l.toArray = true)
    (h : wpQuiet P l.toArray (Kept w) (fun a' => ∀ w', Kept w w' → Q .normal a' w') l a) : (Code.region id l.toArray true).wp P Q a w :=
  wp_region_quiet (C := Kept w) hm hB ((Keep.refl _ w).drew) (by simpa using h)
theorem kq_skip {C : World → Prop} {ops : Array Oper} {Q : Act → Prop} {a : Act} {o : Oper} {rest : List Oper} (hw : Region.wanted o (yielded ops a.tmps) = false)
    (h : ∀ K : Act → Prop, (∀ a, QV (wpQuiet P ops C Q rest a) → K a) → K (a.put o.dst undef)) : QV (wpQuiet P ops C Q (o :: rest) a) :=
  ⟨BigFrame.wpQuiet_skip hw (h _ (fun _ h => h)).out⟩
theorem kq_want {C : World → Prop} {ops : Array Oper} {Q : Act → Prop} {a : Act} {o : Oper} {rest : List Oper} (hw : Region.wanted o (yielded ops a.tmps) = true)
    (h : ∀ K : Act → Prop, (∀ a, QV (wpQuiet P ops C Q rest a) → K a) → o.quiet P a C K) : QV (wpQuiet P ops C Q (o :: rest) a) :=
  ⟨BigFrame.wpQuiet_want hw fun K hK => h K fun a ha => hK a ha.out⟩
theorem kq_still {C : World → Prop} {o : Oper} {a : Act} {K : Act → Prop} (v : Value) (h : ∀ w', C w' → (execOp a.eval o).run P w' = .ok (.value v) w') (hk : K (a.put o.dst v)) : o.quiet P a C K :=
  ⟨v, fun w' hw' => by unfold Oper.quietAt; rw [h w' hw']; exact ⟨rfl, rfl⟩, hk⟩
theorem kq_call {w : World} {o : Oper} {a : Act} {K : Act → Prop} {f : FuncId} {args : Array Value} {v : Value} (hr : ∀ w', (execOp a.eval o).run P w' = .ok (.enter f args) w')
    (hc : ∀ w', Kept w w' → Calls P f args w' fun e w'' => e = .returned v ∧ Kept w' w'') (hk : K (a.put o.dst v)) : o.quiet P a (Kept w) K :=
  ⟨v, fun w' hw' => by unfold Oper.quietAt; rw [hr w']; exact ⟨rfl, (hc w' hw').mono fun e w'' ⟨h1, h2⟩ => ⟨h1, hw'.then_ h2⟩⟩, hk⟩
end
end Go.Proofs.Ytnofckgnnpmiiaa
