/- input.Stream: one that no call made. -/
import Derived.Test.YtbdkiiaiadbmbaaInRead
import Derived.Test.YtbdkiiaiadbmbaaGrow
namespace Go.Proofs.Ytbdkiiaiadbmbaa
open Go.RowKit
set_option linter.unusedVariables false
set_option linter.unusedSimpArgs false

theorem sfeed_nil (v : Value) (w : World) : Calls Try.prog 21 #[.pointer none, v] w fun e w' => e = .returned (.tuple #[.slice none 0 0, .int .i64 2]) ∧ w = w' := by
  go_enter Try.func21, Try.ntmps21
  go_wp2_with go_in
  go_ret2
  exact ⟨rfl, rfl⟩
theorem sfeed_zero (D : Nat) (v : Value) (w : World) (h : w.cell? ⟨D, 4, none⟩ = some (.bool false)) : Calls Try.prog 21 #[.pointer (some ⟨D, 0, none⟩), v] w fun e w' => e = .returned (.tuple #[.slice none 0 0, .int .i64 2]) ∧ w = w' := by
  go_enter Try.func21, Try.ntmps21
  go_wp2_with go_in
  go_ret2
  exact ⟨rfl, rfl⟩
theorem send_nil (w : World) : Calls Try.prog 22 #[.pointer none] w fun e w' => e = .returned (.tuple #[.slice none 0 0, .int .i64 2]) ∧ w = w' := by
  go_enter Try.func22, Try.ntmps22
  go_wp2_with go_in
  go_ret2
  exact ⟨rfl, rfl⟩
theorem send_zero (D : Nat) (w : World) (h : w.cell? ⟨D, 4, none⟩ = some (.bool false)) : Calls Try.prog 22 #[.pointer (some ⟨D, 0, none⟩)] w fun e w' => e = .returned (.tuple #[.slice none 0 0, .int .i64 2]) ∧ w = w' := by
  go_enter Try.func22, Try.ntmps22
  go_wp2_with go_in
  go_ret2
  exact ⟨rfl, rfl⟩
theorem splace_nil (w : World) : Calls Try.prog 23 #[.pointer none] w fun e w' => e = .returned (.agg #[.int .i64 0, .int .i64 0, .int .i64 0]) ∧ Below w.heap.size w w' := by
  go_enter Try.func23, Try.ntmps23
  go_wp2
  refine bodyPost_ret (v := .agg #[.int .i64 0, .int .i64 0, .int .i64 0]) (by simp [results, Try.results23, go_sem]; first | done | rfl) rfl ⟨rfl, (Below.refl _ _).alloc (Nat.le_refl _) _⟩
theorem splace_zero (D : Nat) (w : World) (h : w.cell? ⟨D, 4, none⟩ = some (.bool false)) (hD : D < w.heap.size) : Calls Try.prog 23 #[.pointer (some ⟨D, 0, none⟩)] w fun e w' => e = .returned (.agg #[.int .i64 0, .int .i64 0, .int .i64 0]) ∧ Below w.heap.size w w' := by
  go_enter Try.func23, Try.ntmps23
  go_wp2
  refine bodyPost_ret (v := .agg #[.int .i64 0, .int .i64 0, .int .i64 0]) (by simp [results, Try.results23, go_sem]; first | done | rfl) rfl ⟨rfl, (Below.refl _ _).alloc (Nat.le_refl _) _⟩

end Go.Proofs.Ytbdkiiaiadbmbaa
