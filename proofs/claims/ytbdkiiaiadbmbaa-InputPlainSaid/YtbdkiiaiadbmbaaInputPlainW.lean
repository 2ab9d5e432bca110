/- sievelaw03.InputPlain: the walk. -/
import Derived.Test.YtbdkiiaiadbmbaaInRead
namespace Go.Proofs.Ytbdkiiaiadbmbaa.inputPlain
open Go.RowKit
set_option linter.unusedVariables false
set_option linter.unusedSimpArgs false

theorem walk (r : Int) (h0 : -2147483648 ≤ r) (h1 : r ≤ 2147483647) (w : World) : Calls Try.prog 3 #[.int .i32 r] w fun e w' => e = .returned (.bool true) ∧ Below w.heap.size w w' := by
  have hpp := plain_is (plainOf r) (plainOf r) w (Lib.hid (plain_plain r))
  have hp := plain_any r w
  have hr := plainR_any r w h0 h1
  generalize plainOf r = p at *
  go_enter Try.func3, Try.ntmps3
  go_wp2_with fail
  refine hp.mono ?_
  rintro e w' ⟨rfl, rfl⟩
  go_wp2_with fail
  refine hr.mono ?_
  rintro e w' ⟨rfl, rfl⟩
  go_wp2_with fail
  refine hpp.mono ?_
  rintro e w' ⟨rfl, rfl⟩
  go_wp2_with fail
  refine (lives3_yes _).mono ?_
  rintro e w3 ⟨rfl, hb3⟩
  go_wp2_with fail
  go_ret
  exact ⟨rfl, hb3⟩

end Go.Proofs.Ytbdkiiaiadbmbaa.inputPlain
