/- utf.Decoder: Feed, End, Held. -/
import Derived.Test.YtbdkiiaiadbmbaaSub
import Derived.Test.YtbdkiiaiadbmbaaUtfB
import Derived.Test.YtbdkiiaiadbmbaaUtfC
import Derived.Test.YtbdkiiaiadbmbaaBytes
import Derived.Test.YtbdkiiaiadbmbaaDecC
namespace Go.Proofs.Ytbdkiiaiadbmbaa
open Go.RowKit
set_option linter.unusedVariables false
set_option linter.unusedSimpArgs false

theorem byt_append {a b : List Int} (ha : Byt a) (hb : Byt b) : Byt (a ++ b) := by
  intro j x hj
  rcases Nat.lt_or_ge j a.length with h | h
  · rw [List.getElem?_append_left h] at hj; exact ha j x hj
  · rw [List.getElem?_append_right h] at hj; exact hb _ x hj
theorem byt_take {a : List Int} (ha : Byt a) (n : Nat) : Byt (a.take n) := by
  intro j x hj
  rw [List.getElem?_take] at hj
  split at hj
  · exact ha j x hj
  · cases hj

end Go.Proofs.Ytbdkiiaiadbmbaa
