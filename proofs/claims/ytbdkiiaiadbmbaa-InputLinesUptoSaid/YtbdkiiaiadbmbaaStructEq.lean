/- Places and cells compared. -/
import Derived.Test.YtbdkiiaiadbmbaaIn
import Derived.Laws.StructEq
namespace Go.Proofs.Ytbdkiiaiadbmbaa
open Go.RowKit
set_option linter.unusedVariables false
set_option linter.unusedSimpArgs false

theorem hp_place : Try.prog.stoodInHeld 34 = false := by kernel_rfl
theorem hm_place : Try.prog.eqGuardType Try.prog.depth 34 = false := by kernel_rfl
theorem hp_cell : Try.prog.stoodInHeld 36 = false := by kernel_rfl
theorem hm_cell : Try.prog.eqGuardType Try.prog.depth 36 = false := by kernel_rfl
theorem ht_place : Try.prog.underlying 34 = some (.struct (Try.prog.fieldsOf 34)) := by kernel_rfl
theorem ht_cell : Try.prog.underlying 36 = some (.struct (Try.prog.fieldsOf 36)) := by kernel_rfl

theorem eq_place (d : Nat) (a b c a' b' c' : Int) (w : World) : (Op.equalIn (d + 2) 34 (.agg #[.int .i64 a, .int .i64 b, .int .i64 c]) (.agg #[.int .i64 a', .int .i64 b', .int .i64 c'])).run Try.prog w = .ok (decide (a = a' ∧ b = b' ∧ c = c')) w := by
  rw [run_equalIn_agg _ _ _ _ _ ht_place hp_place]
  simp [go_sem, Program.fieldsOf, Try.underlying34, Op.eqFields, run_equalIn_int]
  by_cases h1 : a = a' <;> by_cases h2 : b = b' <;> by_cases h3 : c = c' <;> simp [h1, h2, h3]
theorem eq_cell (d : Nat) (r a b c r' a' b' c' : Int) (w : World) : (Op.equalIn (d + 3) 36 (.agg #[.int .i32 r, .int .i64 a, .int .i64 b, .int .i64 c]) (.agg #[.int .i32 r', .int .i64 a', .int .i64 b', .int .i64 c'])).run Try.prog w = .ok (decide (r = r' ∧ a = a' ∧ b = b' ∧ c = c')) w := by
  have hq := fun x y z x' y' z' w0 => eq_place d x y z x' y' z' w0
  rw [run_equalIn_agg _ _ _ _ _ ht_cell hp_cell]
  simp [go_sem, Program.fieldsOf, Try.underlying36, Try.underlying34, Op.eqFields, run_equalIn_int, hq]
  by_cases h0 : r = r' <;> by_cases h1 : a = a' <;> by_cases h2 : b = b' <;> by_cases h3 : c = c' <;> simp [h0, h1, h2, h3]
theorem eql_place (a b c a' b' c' : Int) (w : World) : (binOp .eql 34 (.agg #[.int .i64 a, .int .i64 b, .int .i64 c]) (.agg #[.int .i64 a', .int .i64 b', .int .i64 c'])).run Try.prog w = .ok (.bool (decide (a = a' ∧ b = b' ∧ c = c'))) w := by
  rw [run_eql_struct, eq_place 9998]; rfl
theorem neq_place (a b c a' b' c' : Int) (w : World) : (binOp .neq 34 (.agg #[.int .i64 a, .int .i64 b, .int .i64 c]) (.agg #[.int .i64 a', .int .i64 b', .int .i64 c'])).run Try.prog w = .ok (.bool (!decide (a = a' ∧ b = b' ∧ c = c'))) w := by
  rw [run_neq_struct, eq_place 9998]; rfl
theorem neq_cell (r a b c r' a' b' c' : Int) (w : World) : (binOp .neq 36 (.agg #[.int .i32 r, .int .i64 a, .int .i64 b, .int .i64 c]) (.agg #[.int .i32 r', .int .i64 a', .int .i64 b', .int .i64 c'])).run Try.prog w = .ok (.bool (!decide (r = r' ∧ a = a' ∧ b = b' ∧ c = c'))) w := by
  rw [run_neq_struct, eq_cell 9997]; rfl
theorem guard_place (op : BinOp) (x y : Operand) (xs ys : Array Value) (w : World) : (eqGuard op 34 x y (.agg xs) (.agg ys)).run Try.prog w = .ok () w := run_eqGuard_agg w op _ x y xs ys hm_place
theorem guard_cell (op : BinOp) (x y : Operand) (xs ys : Array Value) (w : World) : (eqGuard op 36 x y (.agg xs) (.agg ys)).run Try.prog w = .ok () w := run_eqGuard_agg w op _ x y xs ys hm_cell

end Go.Proofs.Ytbdkiiaiadbmbaa
