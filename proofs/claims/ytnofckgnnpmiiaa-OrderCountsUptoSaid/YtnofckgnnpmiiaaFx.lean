/- Families of six lists that were made one behind the other; an exchange of two elements in a drawn region: a tail in order. -/
import Derived.Test.YtnofckgnnpmiiaaAp
import Derived.Test.YtnofckgnnpmiiaaFg
namespace Go.Proofs.Ytnofckgnnpmiiaa
open Go.RowKit Go.Shelf

/-- the block of a list of some room lies between p and q -/
def Lies (A : Option Addr) (c p q : Nat) : Prop := 0 < c → ∀ a, A = some a → p ≤ a.block ∧ a.block < q
theorem Lies.of {α : Type} {E : El α} {w : World} {A : Option Addr} {c p : Nat} {xs : List α} (h : Ow E w A c xs) (hf : ∀ a, A = some a → p ≤ a.block) : Lies A c p w.heap.size := fun hc a ha => by
  obtain ⟨b, o, e, hlt⟩ := h.lt hc
  rw [e] at ha
  obtain rfl := Option.some.inj ha
  exact ⟨hf _ e, hlt⟩
theorem Lies.wide {A : Option Addr} {c p q p' q' : Nat} (h : Lies A c p q) (h1 : p' ≤ p) (h2 : q ≤ q') : Lies A c p' q' := fun hc a ha => by
  have := h hc a ha
  omega

/-- lists by their numbers, each with a place of its own in the order of their making -/
structure Made (w : World) (n : Nat) (A : Nat → Option Addr) (C : Nat → Nat) (G : Nat → List Item) (p q : Nat → Nat) : Prop where
  ow : ∀ j, j < n → Ow EI w (A j) (C j) (G j)
  lies : ∀ j, j < n → Lies (A j) (C j) (p j) (q j)
  ord : ∀ i j, i < n → j < n → i ≠ j → q i ≤ p j ∨ q j ≤ p i
theorem Made.fam {w : World} {n B : Nat} {A : Nat → Option Addr} {C : Nat → Nat} {G : Nat → List Item} {p q : Nat → Nat} (h : Made w n A C G p q) (hB : ∀ j, j < n → q j ≤ B) : Fam w n B A C G :=
  ⟨h.ow, fun i j hi hj hne ci cj a b ha hb => by
    have h1 := h.lies i hi ci a ha
    have h2 := h.lies j hj cj b hb
    rcases h.ord i j hi hj hne with h3 | h3 <;> omega, fun j hj cj a ha => by
    have h1 := h.lies j hj cj a ha
    have := hB j hj
    omega⟩

def pick6 {α : Type} (d a0 a1 a2 a3 a4 a5 : α) : Nat → α
  | 0 => a0
  | 1 => a1
  | 2 => a2
  | 3 => a3
  | 4 => a4
  | 5 => a5
  | _ => d

def pick9 {α : Type} (d a0 a1 a2 a3 a4 a5 a6 a7 a8 : α) : Nat → α
  | 0 => a0
  | 1 => a1
  | 2 => a2
  | 3 => a3
  | 4 => a4
  | 5 => a5
  | 6 => a6
  | 7 => a7
  | 8 => a8
  | _ => d

section
variable {P : Program} {Q : Exit → Act → World → Prop}
theorem wpAny_seq {a : Act} {w : World} {l : List Oper} (n f : Nat) {target : Array Bool} (hf : f = l.length - n) (hB : Region.seqB .any l.toArray f n target = true) (h : wpList P l.toArray Q (l.drop n) a w) :
    wpAny P .any l.toArray Q f target a w := by
  subst hf
  exact wpAny_forced hB h
theorem wpOp_here {ops : Array Oper} {i : Nat} {o : Oper} {v : Value} {a : Act} {w : World} {K : Act → World → Prop} (hi : ops[i]? = some o) (hw : Region.wanted o (yielded ops a.tmps) = true) (hr : (execOp a.eval o).run P w = .ok (.value v) w)
    (h : K (a.put o.dst v) w) : wpOp P ops Q i K a w := by
  unfold wpOp
  simp only [hi, hw, if_true]
  left
  unfold Oper.wp
  rw [hr]
  exact h
end
end Go.Proofs.Ytnofckgnnpmiiaa
