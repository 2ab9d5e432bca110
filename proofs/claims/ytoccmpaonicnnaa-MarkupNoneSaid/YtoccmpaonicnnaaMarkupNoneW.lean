/- sievelaw09.MarkupNone: the walk. -/
import Derived.Test.YtoccmpaonicnnaaLives9
namespace Go.Proofs.Ytoccmpaonicnnaa.markupNone
open Go.RowKit
set_option linter.unusedVariables false
set_option linter.unusedSimpArgs false

theorem put_nil (r : Int) (w : World) : Calls Try.prog 14 #[.pointer none, .int .i32 r] w fun e w' => e = .returned (.tuple #[.bool false, .int .i64 2]) ∧ w = w' := by
  go_enter Try.func14, Try.ntmps14
  go_wp2
  go_step3
  go_wp2_with go_in
  rw [Exit.noGoto_ret]
  go_ret2
  exact ⟨rfl, rfl⟩
theorem end_nil (w : World) : Calls Try.prog 17 #[.pointer none] w fun e w' => e = .returned (.int .i64 2) ∧ w = w' := by
  go_enter Try.func17, Try.ntmps17
  go_wp2_with go_in
  go_ret
  exact ⟨rfl, rfl⟩
theorem text_nil (w : World) : Calls Try.prog 16 #[.pointer none] w fun e w' => e = .returned (.string ByteArray.empty) ∧ w = w' := by
  go_enter Try.func16, Try.ntmps16
  go_wp2
  go_ret
  exact ⟨rfl, rfl⟩
theorem put_zero (D : Nat) (r : Int) (w : World) (h : w.cell? ⟨D, 3, none⟩ = some (.bool false)) : Calls Try.prog 14 #[.pointer (some ⟨D, 0, none⟩), .int .i32 r] w fun e w' => e = .returned (.tuple #[.bool false, .int .i64 2]) ∧ w = w' := by
  go_enter Try.func14, Try.ntmps14
  go_wp2
  go_step3
  go_wp2_with go_in
  rw [Exit.noGoto_ret]
  go_ret2
  exact ⟨rfl, rfl⟩
theorem end_zero (D : Nat) (w : World) (h : w.cell? ⟨D, 3, none⟩ = some (.bool false)) : Calls Try.prog 17 #[.pointer (some ⟨D, 0, none⟩)] w fun e w' => e = .returned (.int .i64 2) ∧ w = w' := by
  go_enter Try.func17, Try.ntmps17
  go_wp2_with go_in
  go_ret
  exact ⟨rfl, rfl⟩
theorem text_zero (D : Nat) (w : World) (h : w.cell? ⟨D, 3, none⟩ = some (.bool false)) : Calls Try.prog 16 #[.pointer (some ⟨D, 0, none⟩)] w fun e w' => e = .returned (.string ByteArray.empty) ∧ w = w' := by
  go_enter Try.func16, Try.ntmps16
  go_wp2
  go_ret
  exact ⟨rfl, rfl⟩

set_option maxHeartbeats 1000000 in
theorem walk (r : Int) (w : World) :
    Calls Try.prog 6 #[.int .i32 r] w fun e w' => e = .returned (.bool true) ∧ Below w.heap.size w w' := by
  have hz : ∀ cs : Array Value, cs[3]? = some (.bool false) → (w.alloc (.cells cs 43)).cell? ⟨w.heap.size, 3, none⟩ = some (.bool false) := fun cs h => by rw [World.cell?_alloc_at _ _ _ _ rfl]; exact h
  have hz1 := hz #[.int .i64 0, .slice none 0 0, .int .i64 0, .bool false, .bool false] rfl
  have he : (ByteArray.empty.toList == []) = true := by decide +kernel
  clear hz
  go_enter Try.func6, Try.ntmps6
  go_wp2_with fail
  refine (put_nil r _).mono ?_
  rintro e w1 ⟨rfl, rfl⟩
  go_wp2_with fail
  refine (put_zero _ r _ hz1).mono ?_
  rintro e w1 ⟨rfl, rfl⟩
  go_wp2_with fail
  refine (end_nil _).mono ?_
  rintro e w1 ⟨rfl, rfl⟩
  go_wp2_with fail
  refine (end_zero _ _ hz1).mono ?_
  rintro e w1 ⟨rfl, rfl⟩
  go_wp2_with fail
  refine (text_nil _).mono ?_
  rintro e w1 ⟨rfl, rfl⟩
  go_wp2_with fail
  refine (text_zero _ _ hz1).mono ?_
  rintro e w1 ⟨rfl, rfl⟩
  go_wp2_with fail
  refine (lives9_yes _).mono ?_
  rintro e w3 ⟨rfl, hb3⟩
  go_wp2_with fail
  go_ret
  exact ⟨rfl, bnext ((Below.refl w.heap.size w).alloc (Nat.le_refl _) _) hb3⟩

end Go.Proofs.Ytoccmpaonicnnaa.markupNone
