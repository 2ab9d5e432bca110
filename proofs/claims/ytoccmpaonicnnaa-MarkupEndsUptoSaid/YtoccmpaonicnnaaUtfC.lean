/- utf.Tail, good, Width; sieveref01.Char, Width. -/
import Derived.Test.YtoccmpaonicnnaaRead
import Derived.Test.YtoccmpaonicnnaaSl
namespace Go.Proofs.Ytoccmpaonicnnaa
open Go.RowKit
set_option linter.unusedVariables false
set_option linter.unusedSimpArgs false

theorem ret_boolx {a b : Bool} (h : a = b) : Ending.returned (.bool a) = .returned (.bool b) := by rw [h]
theorem ret_intx {k : IntKind} {a b : Int} (h : a = b) : Ending.returned (.int k a) = .returned (.int k b) := by rw [h]

theorem good_any (r : Int) (w : World) : Calls Try.prog 38 #[.int .i32 r] w fun e w' => e = .returned (.bool (goodB r)) ∧ w = w' := by
  go_enter Try.func38, Try.ntmps38
  go_wp2
  all_goals go_ret
  all_goals (refine ⟨ret_boolx ?_, rfl⟩)
  all_goals (symm; first | (rw [goodB_iff]; omega) | (rw [goodB_false]; omega) | (simp only [goodB]; simp [*]))

theorem char_any (r : Int) (w : World) : Calls Try.prog 43 #[.int .i32 r] w fun e w' => e = .returned (.bool (goodB r)) ∧ w = w' := by
  go_enter Try.func43, Try.ntmps43
  go_wp2
  all_goals go_ret
  all_goals (refine ⟨ret_boolx ?_, rfl⟩)
  all_goals (symm; first | (rw [goodB_iff]; omega) | (rw [goodB_false]; omega) | (simp only [goodB]; simp [*]))

theorem width_any (r : Int) (w : World) : Calls Try.prog 28 #[.int .i32 r] w fun e w' => e = .returned (.int .i64 (widthOf r)) ∧ w = w' := by
  cases hg : goodB r
  all_goals
    have HG := Lib.hid hg
    have hgo := good_any r w
    rw [hg] at hgo
    clear hg
    go_enter Try.func28, Try.ntmps28
    go_wp2_with (go_at_call 38; refine hgo.mono ?_; rintro e w' ⟨rfl, rfl⟩)
    all_goals go_ret
    all_goals (refine ⟨ret_intx ?_, rfl⟩; simp only [widthOf, HG.out])
    all_goals ((repeat' split) <;> first | rfl | omega | contradiction)

theorem widthR_any (r : Int) (w : World) : Calls Try.prog 44 #[.int .i32 r] w fun e w' => e = .returned (.int .i64 (widthOf r)) ∧ w = w' := by
  cases hg : goodB r
  all_goals
    have HG := Lib.hid hg
    have hgo := char_any r w
    rw [hg] at hgo
    clear hg
    go_enter Try.func44, Try.ntmps44
    go_wp2_with (go_at_call 43; refine hgo.mono ?_; rintro e w' ⟨rfl, rfl⟩)
    all_goals go_ret
    all_goals (refine ⟨ret_intx ?_, rfl⟩; simp only [widthOf, HG.out])
    all_goals ((repeat' split) <;> first | rfl | omega | contradiction)

end Go.Proofs.Ytoccmpaonicnnaa
