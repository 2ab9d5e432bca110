/- A region that draws its order and whose calls make memory but turn none: one walk of the order of the text. No program is named here. -/
import Derived.Test.YtbdkiiaiadbmbaaBase
import Derived.BigQuiet
namespace Go.Proofs.Ytbdkiiaiadbmbaa
open Go.RowKit
set_option linter.unusedVariables false
set_option linter.unusedSimpArgs false

/-- W has grown out of w: what was there is as it was. -/
def Grew (w W : World) : Prop := Below w.heap.size w W
theorem Grew.refl (w : World) : Grew w w := Below.refl _ _
theorem Grew.below {w W : World} (h : Grew w W) : Below w.heap.size w W := h
theorem Grew.calls {P : Program} {f : FuncId} {args : Array Value} {w W : World} {v : Value} (hG : Grew w W)
    (h : Calls P f args W fun e W' => e = .returned v ∧ Below W.heap.size W W') : Calls P f args W fun e W' => e = .returned v ∧ Grew w W' :=
  h.mono fun _ _ ⟨he, hb⟩ => ⟨he, Below.trans hG (hb.mono (Below.size hG))⟩
theorem Grew.drawn (w : World) : Grew w { w with drawn := w.drawn + 1 } := below_drewN (Below.refl _ _) 1

section
variable {P : Program}
/-- the region's law at a class of worlds -/
theorem wp_region_class (C : World → Prop) {id : Nat} {Q : Exit → Act → World → Prop} {a : Act} {w : World} {l : List Oper} (hm : P.follows .mixedOrders = true) (hB : Region.lexB .any l.toArray = true)
    (hC : C { w with drawn := w.drawn + 1 }) (h : wpQuiet P l.toArray C (fun a' => ∀ w', C w' → Q .normal a' w') l a) : (Code.region id l.toArray true).wp P Q a w :=
  wp_region_quiet (C := C) hm hB hC (by simpa using h)
theorem quiet_run {ops : Array Oper} {C : World → Prop} {o : Oper} {a : Act} {K : Act → Prop} (v : Value) (h : ∀ W, C W → (execOp a.eval o).run P W = .ok (.value v) W) (hk : K (a.put o.dst v)) : o.quiet P a C K :=
  ⟨v, fun W hW => by unfold Oper.quietAt; rw [h W hW]; exact ⟨rfl, rfl⟩, hk⟩
/-- a conversion, by its run -/
theorem quiet_convert {C : World → Prop} {o : Oper} {a : Act} {K : Act → Prop} (src dst : TypeId) (x : Operand) (h : o.op = .convert src dst x) (v : Value) (hr : ∀ W, C W → (convert src dst (a.eval x)).run P W = .ok v W) (hk : K (a.put o.dst v)) : o.quiet P a C K :=
  ⟨v, fun W hW => by
    have := hr W hW
    unfold Oper.quietAt
    simp [execOp, h, this, Result.andThen, Oper.quietUpon], hk⟩
end

end Go.Proofs.Ytbdkiiaiadbmbaa
