/- 'same' of two equal lists; 'lend', 'left'; Sort, Search and Twice without an order. -/
import Derived.Test.YtnofckgnnpmiiaaRt
namespace Go.Proofs.Ytnofckgnnpmiiaa
open Go.RowKit Go.Shelf
attribute [local go_sem ↓] Go.wp_at_zero Go.wp_at_succ

theorem item27 : Try.prog.underlying 27 = some (.struct (Try.prog.fieldsOf 27)) := by kernel_rfl
theorem stood27 : Try.prog.stoodInHeld 27 = false := by kernel_rfl
theorem run_equal_items (d : Nat) (x y : Item) (w : World) : (Op.equalIn (d + 2) 27 (EI.val x) (EI.val y)).run Try.prog w = .ok (decide (x = y)) w := by
  show (Op.equalIn (d + 2) 27 (.agg #[.int .i64 x.1, .int .i64 x.2]) (.agg #[.int .i64 y.1, .int .i64 y.2])).run Try.prog w = _
  rw [run_equalIn_struct w (d + 1) 27 _ _ item27 stood27]
  obtain ⟨a, b⟩ := x
  obtain ⟨a', b'⟩ := y
  simp [Program.fieldsOf, Try.underlying27, Op.eqFields, part, Op.equalIn, run_underlying Try.underlying2, run_underlying Try.underlying3]
  by_cases h : a = a' <;> by_cases h' : b = b' <;> simp [h, h']
theorem run_neq_items (x y : Item) (w : World) : (binOp .neq 27 (.agg #[.int .i64 x.1, .int .i64 x.2]) (.agg #[.int .i64 y.1, .int .i64 y.2])).run Try.prog w = .ok (.bool (! decide (x = y))) w := by
  have h : ∀ d, (Op.equalIn (d + 2) 27 (.agg #[.int .i64 x.1, .int .i64 x.2]) (.agg #[.int .i64 y.1, .int .i64 y.2])).run Try.prog w = .ok (decide (x = y)) w := fun d => run_equal_items d x y w
  simp only [binOp]
  simp [Op.equal, Op.maxDepth, h 9998]
theorem run_eql_items (x y : Item) (w : World) : (binOp .eql 27 (.agg #[.int .i64 x.1, .int .i64 x.2]) (.agg #[.int .i64 y.1, .int .i64 y.2])).run Try.prog w = .ok (.bool (decide (x = y))) w := by
  have h : ∀ d, (Op.equalIn (d + 2) 27 (.agg #[.int .i64 x.1, .int .i64 x.2]) (.agg #[.int .i64 y.1, .int .i64 y.2])).run Try.prog w = .ok (decide (x = y)) w := fun d => run_equal_items d x y w
  simp only [binOp]
  simp [Op.equal, Op.maxDepth, h 9998]

theorem sort_none (A : Option Addr) (L c : Nat) (w : World) : Calls Try.prog 14 #[.slice A L c, .nilFunc] w (fun e w' => e = .returned (.slice none 0 0) ∧ Keep (fun _ => False) w w') := by
  have he := fun (w : World) => run_eql_nil_nilFunc (P := Try.prog) w 28 Try.underlying28
  have hk : Hid (∀ o : Obj, Keep (fun _ => False) w (w.alloc o)) := fun o => (Keep.refl _ w).alloc o
  go_enter Try.func14, Try.ntmps14
  go_wp2
  go_ret
  exact ⟨rfl, hk.out _⟩
theorem search_none (A : Option Addr) (L c : Nat) (x : Item) (w : World) : Calls Try.prog 21 #[.slice A L c, EI.val x, .nilFunc] w (fun e w' => e = .returned (.tuple #[.int .i64 0, .bool false]) ∧ Keep (fun _ => False) w w') := by
  have he := fun (w : World) => run_eql_nil_nilFunc (P := Try.prog) w 28 Try.underlying28
  have hk : Hid (∀ o : Obj, Keep (fun _ => False) w (w.alloc o)) := fun o => (Keep.refl _ w).alloc o
  show Calls Try.prog 21 #[.slice A L c, .agg #[.int .i64 x.1, .int .i64 x.2], .nilFunc] w _
  go_enter Try.func21, Try.ntmps21
  go_wp2
  go_ret2
  exact ⟨rfl, hk.out _⟩
theorem twice_none (A : Option Addr) (L c : Nat) (w : World) : Calls Try.prog 24 #[.slice A L c, .nilFunc] w (fun e w' => e = .returned (.int .i64 (-1)) ∧ Keep (fun _ => False) w w') := by
  have he := fun (w : World) => run_eql_nil_nilFunc (P := Try.prog) w 28 Try.underlying28
  have hk : Hid (∀ o o' : Obj, Keep (fun _ => False) w ((w.alloc o).alloc o')) := fun o o' => ((Keep.refl _ w).alloc o).alloc o'
  go_enter Try.func24, Try.ntmps24
  go_wp2
  go_ret
  exact ⟨rfl, hk.out _ _⟩
end Go.Proofs.Ytnofckgnnpmiiaa
