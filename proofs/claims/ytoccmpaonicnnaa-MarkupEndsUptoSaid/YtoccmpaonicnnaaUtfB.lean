/- utf.Runes: the runes of bytes, in new memory. -/
import Derived.Test.YtoccmpaonicnnaaUtfA
namespace Go.Proofs.Ytoccmpaonicnnaa
open Go.RowKit Go.Shelf
set_option linter.unusedVariables false
set_option linter.unusedSimpArgs false
attribute [local go_sem] Oper.semAt_some

theorem Try.infoI32 : (Try.prog.info? 21).map (fun i => (i.zero, i.size, i.bytes)) = some (some (.int .i32 0), 1, 4) := by kernel_rfl

def prRunes (l : List (Nat × Int)) : List Int := l.map Prod.snd
theorem prRunes_snoc (l : List (Nat × Int)) (x : Nat × Int) : prRunes (l ++ [x]) = prRunes l ++ [x.2] := by simp [prRunes]
theorem prRunes_prs (xs : List Int) : prRunes (prs xs) = runesOf xs := by simp [prRunes, prs, runesOf, List.map_map]; intro a _; rfl
theorem prRunes_length (l : List (Nat × Int)) : (prRunes l).length = l.length := by simp [prRunes]
theorem prs_length (xs : List Int) : (prs xs).length ≤ xs.length := by have := pcs_length xs; simpa [prs] using this

/-- 'out = append(out, ..)', out in a box of the function's own: what the walk owes behind it. -/
theorem boxed_append {W w1 : World} {n₀ base B lo hi : Nat} {t e : TypeId} {size : Nat} {v v' : Value} {k m : Nat} {xs ys : List Value} {tmp : Obj}
    (hv : Boxed W B t v) (hte : t ≠ e) (hrow : W.ownsRow base e size v k xs) (hn₀ : n₀ ≤ B) (hbase : n₀ ≤ base) (hlo : B < lo) (hhi : hi ≤ base) (hW : hi ≤ W.heap.size)
    (hown' : w1.ownsRow base e size v' m ys) (hgrow : (W.alloc tmp).grownBy w1 v.ownBlock) :
    Boxed w1 B t v ∧ Boxed (w1.setCell ⟨B, 0, none⟩ v') B t v' ∧ (w1.setCell ⟨B, 0, none⟩ v').ownsRow base e size v' m ys ∧ KeepsOthers W (w1.setCell ⟨B, 0, none⟩ v') ∧ Below n₀ W (w1.setCell ⟨B, 0, none⟩ v') ∧ Keeps lo hi W (w1.setCell ⟨B, 0, none⟩ v') := by
  have hBl := hv.lt
  obtain ⟨h1, h2, _, h4, h5⟩ := hv.appended hte (ownsRow_base hrow hbase) (by omega) hn₀ (ownsRow_base hown' hbase) hgrow
  refine ⟨h1, h2, hown'.kept (grownBy_setCell' w1 B v') (.inr (h1.not_row hte hown').symm), h4, h5, ?_⟩
  refine ((Keeps.alloc lo hi W tmp hW).trans (Keeps.grown hgrow (by simp; omega) fun k e => .inr ?_)).trans (Keeps.setCell _ _ _ _ _ (.inl hlo))
  have := ownBlock_lt hrow k e
  omega
theorem boxed_below {w w' : World} {B C : Nat} {t : TypeId} {v : Value} (h : Boxed w B t v) (hb : Below C w w') (hB : B < C) : Boxed w' B t v := (hb.block B hB).trans h

end Go.Proofs.Ytoccmpaonicnnaa
