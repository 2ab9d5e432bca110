/- sievelaw01.lives: the document's examples are as it says. -/
import Derived.Test.YtbdkiiaiadbmbaaUtfB
import Derived.Test.YtbdkiiaiadbmbaaUtfC
import Derived.Test.YtbdkiiaiadbmbaaRefA
namespace Go.Proofs.Ytbdkiiaiadbmbaa
open Go.RowKit
set_option linter.unusedVariables false
set_option linter.unusedSimpArgs false

theorem run_lit (k : IntKind) (w : World) (xs : List Int) (e : TypeId) : Run k (w.alloc (.cells (xs.map (Value.int k)).toArray e)) w.heap.size 0 xs := by
  intro j x hj
  rw [World.cell?_alloc_at _ _ _ _ rfl]
  simp [hj]
theorem slI_lit (k : IntKind) (w : World) (xs : List Int) (e : TypeId) : SlI k (w.heap.size + 1) (w.alloc (.cells (xs.map (Value.int k)).toArray e)) (.slice (some ⟨w.heap.size, 0, none⟩) xs.length xs.length) xs :=
  SlI.run (run_lit k w xs e) (by omega) (Nat.le_refl _)

theorem byt_of_all {xs : List Int} (h : xs.all (fun x => decide (0 ≤ x) && decide (x ≤ 255)) = true) : Byt xs := by
  intro j x hj
  have := List.all_eq_true.1 h x (List.mem_of_getElem? hj)
  simpa using this

theorem lives_runes : runesOf [97, 255, 226, 130, 98] = [97, 65533, 65533, 98] := by decide +kernel
theorem lives_tail : tailOf [226, 130] = 2 := by decide +kernel
theorem lives_width : widthOf 1114111 = 4 := by decide +kernel

end Go.Proofs.Ytbdkiiaiadbmbaa
