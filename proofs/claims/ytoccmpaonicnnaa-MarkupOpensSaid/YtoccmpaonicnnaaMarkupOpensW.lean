/- sievelaw09.MarkupOpens: the walk. -/
import Derived.Test.YtoccmpaonicnnaaLives9
namespace Go.Proofs.Ytoccmpaonicnnaa.markupOpens
open Go.RowKit
set_option linter.unusedVariables false
set_option linter.unusedSimpArgs false

set_option maxHeartbeats 1000000 in
theorem walk (s : ByteArray) (w : World) (hx : s.size ≤ 9223372036854775807) :
    Calls Try.prog 3 #[.string s] w fun e w' => e = .returned (.bool true) ∧ Below w.heap.size w w' := by
  go_enter Try.func3, Try.ntmps3
  go_wp2_with (first
    | (go_at_call 8; refine (open_any' s _ hx).mono ?_; rintro e w1 ⟨rfl, hb1⟩)
    | (go_at_call 9; refine (refopen_any s _ hx).mono ?_; rintro e w2 ⟨rfl, rfl⟩)
    | (go_at_call 10; refine (lives9_yes _).mono ?_; rintro e w3 ⟨rfl, hb3⟩))
  go_ret
  exact ⟨rfl, bnext hb1 hb3⟩

end Go.Proofs.Ytoccmpaonicnnaa.markupOpens
