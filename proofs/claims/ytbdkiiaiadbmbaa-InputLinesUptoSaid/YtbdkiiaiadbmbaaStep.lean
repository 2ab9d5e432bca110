/- Slices over steps: all at the size of the world they stand in. -/
import Derived.Test.YtbdkiiaiadbmbaaRefA
import Derived.Test.YtbdkiiaiadbmbaaLives1
namespace Go.Proofs.Ytbdkiiaiadbmbaa
open Go.RowKit
set_option linter.unusedVariables false
set_option linter.unusedSimpArgs false

theorem SlI.step {k : IntKind} {w w' : World} {v : Value} {xs : List Int} (h : SlI k w.heap.size w v xs) (hb : Below w.heap.size w w') : SlI k w'.heap.size w' v xs :=
  (h.below hb (Nat.le_refl _)).mono hb.size
theorem bnext {B : Nat} {a b c : World} (h : Below B a b) (hb : Below b.heap.size b c) (hB : B ≤ a.heap.size := by exact Nat.le_refl _) : Below B a c := h.trans (hb.mono (Nat.le_trans hB h.size))
theorem Drew.step {a b : World} (h : Drew a b) : Below a.heap.size a b := h.below _
/-- append([]T{}, xs...): a copy -/
theorem below_copy {w w1 : World} {c : Obj} (hg : (w.alloc c).grownBy w1 (Value.slice (some ⟨w.heap.size, 0, none⟩) 0 0).ownBlock) : Below w.heap.size w w1 :=
  ((Below.refl w.heap.size w).alloc (Nat.le_refl _) _).grown hg (by simp) (fun k hk => by simp [Value.ownBlock] at hk; omega)

end Go.Proofs.Ytbdkiiaiadbmbaa
