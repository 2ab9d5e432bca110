/- Small laws that the walks of the laws want: a function value held against nil; the lent bytes. -/
import Derived.Test.YtbdkiiaiadbmbaaRefA
import Derived.Test.YtbdkiiaiadbmbaaPieces
import Derived.Test.YtbdkiiaiadbmbaaUtfB
namespace Go.Proofs.Ytbdkiiaiadbmbaa
open Go.RowKit
set_option linter.unusedVariables false
set_option linter.unusedSimpArgs false

theorem run_equalIn_func_nil {P : Program} {t : TypeId} {a b : Array TypeId} {c : Bool} (ht : P.underlying t = some (.func a b c)) (n : Nat) (f : Fn) (r d : Array Value) (w : World) :
    (Op.equalIn (n + 1) t (.func f r d) .nilFunc).run P w = .ok false w := by
  simp [Op.equalIn, run_underlying ht]
theorem run_eql_func_nil {P : Program} {t : TypeId} {d : TypeDesc} (ht : P.underlying t = some d) (hd : ∃ a b c, d = .func a b c) (f : Fn) (r c : Array Value) (w : World) :
    (binOp .eql t (.func f r c) .nilFunc).run P w = .ok (.bool false) w := by
  obtain ⟨a, b, c', rfl⟩ := hd
  simp only [binOp]
  have := run_equalIn_func_nil ht 9999 f r c w
  simp [Op.equal, Op.maxDepth, this]

theorem lent_mid {w : World} {base : Nat} {e : TypeId} {g : Nat} {xs : List Int} (h : w.ownsRow base e 1 (.slice (some ⟨g, 0, none⟩) (xs.length + 4) (xs.length + 4)) (xs.length + 4) ((lent xs).map (Value.int .u8))) :
    SlI .u8 w.heap.size w (.slice (some ⟨g, 2, none⟩) xs.length (xs.length + 2)) xs := by
  refine SlI.run ?_ (h.lt g rfl).2 (by omega)
  intro j x hj
  have hlt : j < xs.length := (List.getElem?_eq_some_iff.1 hj).1
  rw [h.cellAt (2 + j) (by omega), show 2 + j = j + 1 + 1 from by omega]
  simp [lent, List.getElem?_append, hj, hlt]
  exact Option.some.inj ((List.getElem?_eq_getElem hlt).symm.trans hj)
theorem lent_all {w : World} {base : Nat} {e : TypeId} {g : Nat} {xs : List Int} (h : w.ownsRow base e 1 (.slice (some ⟨g, 0, none⟩) (xs.length + 4) (xs.length + 4)) (xs.length + 4) ((lent xs).map (Value.int .u8))) :
    SlI .u8 w.heap.size w (.slice (some ⟨g, 0, none⟩) (xs.length + 4) (xs.length + 4)) (lent xs) := by
  have := slI_of_owns (k := .u8) (xs := lent xs) h (Nat.le_refl _)
  exact this

theorem encPcs_get : ∀ {l : List Pc} {i : Nat} {c : Pc}, l[i]? = some c → ∀ j, j < 4 → (encPcs l)[i * 4 + j]? = (encPc c)[j]?
  | [], i, c, h, _, _ => by simp at h
  | d :: l, 0, c, h, j, hj => by
    simp at h; subst h
    simp only [encPcs, List.flatMap_cons, Nat.zero_mul, Nat.zero_add]
    rw [List.getElem?_append_left (by simp [encPc]; omega)]
  | d :: l, i + 1, c, h, j, hj => by
    have ih := encPcs_get (l := l) (i := i) (by simpa using h) j hj
    simp only [encPcs, List.flatMap_cons] at ih ⊢
    rw [List.getElem?_append_right (by simp [encPc]; omega), ← ih]
    congr 1
    simp [encPc]; omega
theorem prs_get {xs : List Int} {i : Nat} {c : Pc} (h : (pcs xs)[i]? = some c) : (prs xs)[i]? = some (c.pos, c.r) := by simp [prs, h, pcPair]
theorem prefix_get {α : Type} {l pre : List α} {x y : α} (h : pre ++ [x] <+: l) (hy : l[pre.length]? = some y) : x = y := by
  obtain ⟨r, rfl⟩ := h
  simpa using hy

end Go.Proofs.Ytbdkiiaiadbmbaa
