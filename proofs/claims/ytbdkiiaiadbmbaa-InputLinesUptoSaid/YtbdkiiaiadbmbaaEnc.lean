/- The plain law of writing runes as bytes. No program is named here. -/
import Derived.Test.YtbdkiiaiadbmbaaDec
namespace Go.Proofs.Ytbdkiiaiadbmbaa
set_option linter.unusedVariables false
set_option linter.unusedSimpArgs false

def fixR (r : Int) : Int := if goodB r = true then r else 65533
def encC (c : Int) : List Int :=
  if c < 128 then [c] else if c < 2048 then [192 + c / 64, 128 + c % 64] else if c < 65536 then [224 + c / 4096, 128 + c / 64 % 64, 128 + c % 64] else [240 + c / 262144, 128 + c / 4096 % 64, 128 + c / 64 % 64, 128 + c % 64]
def encR (r : Int) : List Int := encC (fixR r)
def encs (l : List Int) : List Int := l.flatMap encR
theorem encs_snoc (l : List Int) (r : Int) : encs (l ++ [r]) = encs l ++ encR r := by simp [encs]
theorem fixR_good (r : Int) : goodB (fixR r) = true := by unfold fixR; split; · assumption
                                                          · rfl
theorem encC_length (c : Int) : 1 ≤ (encC c).length ∧ (encC c).length ≤ 4 := by unfold encC; (repeat' split) <;> simp
theorem encs_length (l : List Int) : (encs l).length ≤ 4 * l.length := by
  induction l with
  | nil => simp [encs]
  | cons r l ih =>
    have := (encC_length (fixR r)).2
    simp only [encs, List.flatMap_cons, List.length_append, List.length_cons] at ih ⊢
    simp only [encR]; omega
theorem encC_byt (c : Int) (h0 : 0 ≤ c) (h1 : c ≤ 1114111) : ∀ x ∈ encC c, 0 ≤ x ∧ x ≤ 255 := by
  unfold encC
  (repeat' split) <;> (intro x hx; simp at hx; omega)
theorem take_succ_get {l : List Int} {k : Nat} {x : Int} (h : l[k]? = some x) : l.take (k + 1) = l.take k ++ [x] := by rw [List.take_add_one, h]; rfl

end Go.Proofs.Ytbdkiiaiadbmbaa
