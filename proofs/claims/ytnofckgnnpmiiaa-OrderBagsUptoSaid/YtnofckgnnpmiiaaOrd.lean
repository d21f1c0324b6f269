/- What an order that is handed in must be; merging lists; elements of this seat's types. -/
import Derived.Test.YtnofckgnnpmiiaaBase
namespace Go.Proofs.Ytnofckgnnpmiiaa
open Go.RowKit

/-- The function value f answers c; it leaves all blocks but S's; I counts how often it was asked. -/
structure CmpOk {α : Type} (P : Program) (E : El α) (f : Value) (c : α → α → Int) (B : Nat) (S : Nat → Prop) (I : Nat → World → Prop) : Prop where
  fn : ∃ (k : Nat) (first cap : Array Value), f = .func (.func k) first cap ∧ (∀ args w, (callFunc k args).run P w = .ok (.enter k args) w) ∧
     ∀ n w x y, I n w → Calls P k (first ++ (#[E.val x, E.val y] ++ cap)) w fun e w' => e = .returned (.int .i64 (c x y)) ∧ I (n + 1) w' ∧ Keep S w w'
  stable : ∀ n w w', I n w → Below B w w' → I n w'
  old : ∀ k, S k → k < B

/-- A function value against nil. -/
theorem run_eql_func_nil {P : Program} (w : World) (t : TypeId) {ps rs : Array TypeId} {v : Bool} (ht : P.underlying t = some (.func ps rs v)) (fn : Fn) (first cap : Array Value) : (binOp .eql t (.func fn first cap) .nilFunc).run P w = .ok (.bool false) w := by
  have h : ∀ d : Nat, (Op.equalIn (d + 1) t (.func fn first cap) .nilFunc).run P w = .ok false w := fun d => by
    simp [Op.equalIn, run_underlying ht]
  simp only [binOp]
  simp [Op.equal, Op.maxDepth, h 9999]
theorem run_neq_func_nil {P : Program} (w : World) (t : TypeId) {ps rs : Array TypeId} {v : Bool} (ht : P.underlying t = some (.func ps rs v)) (fn : Fn) (first cap : Array Value) : (binOp .neq t (.func fn first cap) .nilFunc).run P w = .ok (.bool true) w := by
  have h : ∀ d : Nat, (Op.equalIn (d + 1) t (.func fn first cap) .nilFunc).run P w = .ok false w := fun d => by
    simp [Op.equalIn, run_underlying ht]
  simp only [binOp]
  simp [Op.equal, Op.maxDepth, h 9999]
theorem run_eql_nil_nilFunc {P : Program} (w : World) (t : TypeId) {ps rs : Array TypeId} {v : Bool} (ht : P.underlying t = some (.func ps rs v)) : (binOp .eql t .nilFunc .nilFunc).run P w = .ok (.bool true) w := by
  have h : ∀ d : Nat, (Op.equalIn (d + 1) t .nilFunc .nilFunc).run P w = .ok true w := fun d => by
    simp [Op.equalIn, run_underlying ht]
  simp only [binOp]
  simp [Op.equal, Op.maxDepth, h 9999]
theorem run_neq_nil_nilFunc {P : Program} (w : World) (t : TypeId) {ps rs : Array TypeId} {v : Bool} (ht : P.underlying t = some (.func ps rs v)) : (binOp .neq t .nilFunc .nilFunc).run P w = .ok (.bool false) w := by
  have h : ∀ d : Nat, (Op.equalIn (d + 1) t .nilFunc .nilFunc).run P w = .ok true w := fun d => by
    simp [Op.equalIn, run_underlying ht]
  simp only [binOp]
  simp [Op.equal, Op.maxDepth, h 9999]

/-- Two lists as one: at each step the next of the second if it is below the next of the first. -/
def mergeL {α : Type} (c : α → α → Int) : List α → List α → List α
  | [], ys => ys
  | xs, [] => xs
  | x :: xs, y :: ys => if c y x < 0 then y :: mergeL c (x :: xs) ys else x :: mergeL c xs (y :: ys)
termination_by xs ys => xs.length + ys.length

theorem mergeL_len {α : Type} (c : α → α → Int) (xs ys : List α) : (mergeL c xs ys).length = xs.length + ys.length := by
  fun_induction mergeL c xs ys <;> simp_all <;> omega
theorem mergeL_nil {α : Type} (c : α → α → Int) (xs : List α) : mergeL c xs [] = xs := by
  cases xs <;> simp [mergeL]
theorem mergeL_y {α : Type} {c : α → α → Int} {x y : α} {xs ys : List α} (h : c y x < 0) : mergeL c (x :: xs) (y :: ys) = y :: mergeL c (x :: xs) ys := by
  rw [mergeL, if_pos h]
theorem mergeL_x {α : Type} {c : α → α → Int} {x y : α} {xs ys : List α} (h : ¬ c y x < 0) : mergeL c (x :: xs) (y :: ys) = x :: mergeL c xs (y :: ys) := by
  rw [mergeL, if_neg h]

/-! ### the elements of this seat -/
abbrev Item := Int × Int
def EI : El Item where
  sz := 2
  pos := by decide
  cells := fun x => [.int .i64 x.1, .int .i64 x.2]
  len := fun _ => rfl
  one := fun x v h => by simp at h; rcases h with rfl | rfl <;> rfl
  val := fun x => .agg #[.int .i64 x.1, .int .i64 x.2]
/-- numbers below L -/
def EF (L : Nat) : El (Fin L) where
  sz := 1
  pos := by decide
  cells := fun x => [.int .i64 (x.1 : Int)]
  len := fun _ => rfl
  one := fun x v h => by simp at h; subst h; rfl
  val := fun x => .int .i64 (x.1 : Int)
def ES : El ByteArray where
  sz := 1
  pos := by decide
  cells := fun x => [.string x]
  len := fun _ => rfl
  one := fun x v h => by simp at h; subst h; rfl
  val := fun x => .string x
/-- an element of a bag with its number -/
abbrev Held (α : Type) := α × Int
def EHI : El (Held Item) where
  sz := 3
  pos := by decide
  cells := fun x => [.int .i64 x.1.1, .int .i64 x.1.2, .int .i64 x.2]
  len := fun _ => rfl
  one := fun x v h => by simp at h; rcases h with rfl | rfl | rfl <;> rfl
  val := fun x => .agg #[.int .i64 x.1.1, .int .i64 x.1.2, .int .i64 x.2]
def EHS : El (Held ByteArray) where
  sz := 2
  pos := by decide
  cells := fun x => [.string x.1, .int .i64 x.2]
  len := fun _ => rfl
  one := fun x v h => by simp at h; rcases h with rfl | rfl <;> rfl
  val := fun x => .agg #[.string x.1, .int .i64 x.2]

theorem info27 : (Try.prog.info? 27).map (fun i => (i.zero, i.size, i.bytes)) = some (some (.agg #[.int .i64 0, .int .i64 0]), 2, 16) := by kernel_rfl
theorem info3 : (Try.prog.info? 3).map (fun i => (i.zero, i.size, i.bytes)) = some (some (.int .i64 0), 1, 8) := by kernel_rfl
theorem info9 : (Try.prog.info? 9).map (fun i => (i.zero, i.size, i.bytes)) = some (some (.string ⟨#[]⟩), 1, 16) := by kernel_rfl
theorem info114 : (Try.prog.info? 114).map (fun i => (i.zero, i.size, i.bytes)) = some (some (.agg #[.int .i64 0, .int .i64 0, .int .i64 0]), 3, 24) := by kernel_rfl
theorem info107 : (Try.prog.info? 107).map (fun i => (i.zero, i.size, i.bytes)) = some (some (.agg #[.string ⟨#[]⟩, .int .i64 0]), 2, 24) := by kernel_rfl
end Go.Proofs.Ytnofckgnnpmiiaa
