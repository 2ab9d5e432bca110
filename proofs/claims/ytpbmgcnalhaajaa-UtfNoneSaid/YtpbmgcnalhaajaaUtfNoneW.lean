/- sievelaw01.UtfNone: the walk. -/
import Derived.Test.YtpbmgcnalhaajaaLives1
namespace Go.Proofs.Ytpbmgcnalhaajaa.utfNone
open Go.RowKit
set_option linter.unusedVariables false
set_option linter.unusedSimpArgs false

set_option maxHeartbeats 4000000 in
theorem walk (v : Value) (w : World) : Calls Try.prog 8 #[v] w fun e w' => e = .returned (.bool true) ∧ Below w.heap.size w w' := by
  have hB0 : Below w.heap.size w (w.alloc (.cells #[.slice none 0 0, .bool false, .bool false] 54)) := (Below.refl _ w).alloc (Nat.le_refl _) _
  go_enter Try.func8, Try.ntmps8
  go_wp2_with (first
    | (go_at_call 12; refine (lives_yes _).mono ?_; rintro e w7 ⟨rfl, hb7⟩)
    | go_in)
  go_ret
  exact ⟨rfl, hB0.trans (hb7.mono (by simp))⟩

end Go.Proofs.Ytpbmgcnalhaajaa.utfNone
