/- The plain law of UTF-16. No program is named here. -/
import Derived.Test.YtpbmgcnalhaajaaEnc
namespace Go.Proofs.Ytpbmgcnalhaajaa
set_option linter.unusedVariables false
set_option linter.unusedSimpArgs false

def u16R (r : Int) : List Int := if goodB r = false then [65533] else if r < 65536 then [r] else [55296 + (r - 65536) / 1024, 56320 + (r - 65536) % 1024]
def u16s (l : List Int) : List Int := l.flatMap u16R
theorem u16s_snoc (l : List Int) (r : Int) : u16s (l ++ [r]) = u16s l ++ u16R r := by simp [u16s]
theorem u16R_length (r : Int) : (u16R r).length ≤ 2 := by unfold u16R; (repeat' split) <;> simp
theorem u16s_length (l : List Int) : (u16s l).length ≤ 2 * l.length := by
  induction l with
  | nil => simp [u16s]
  | cons r l ih =>
    have := u16R_length r
    simp only [u16s, List.flatMap_cons, List.length_append, List.length_cons] at ih ⊢
    omega

def surB (a : Int) : Int := if 55296 ≤ a ∧ a ≤ 57343 then 65533 else a
def fs : List Int → List Int
  | [] => []
  | [a] => [surB a]
  | a :: b :: r => if (55296 ≤ a ∧ a ≤ 56319) ∧ (56320 ≤ b ∧ b ≤ 57343) then (65536 + (a - 55296) * 1024 + b - 56320) :: fs r else surB a :: fs (b :: r)
theorem fs_pair {a b : Int} (r : List Int) (h : (55296 ≤ a ∧ a ≤ 56319) ∧ (56320 ≤ b ∧ b ≤ 57343)) : fs (a :: b :: r) = (65536 + (a - 55296) * 1024 + b - 56320) :: fs r := by
  rw [fs, if_pos h]
theorem fs_one {a : Int} {l : List Int} (h : ¬ (55296 ≤ a ∧ a ≤ 56319) ∨ ∀ b, l[0]? = some b → ¬ (56320 ≤ b ∧ b ≤ 57343)) : fs (a :: l) = surB a :: fs l := by
  cases l with
  | nil => rfl
  | cons b r =>
    rw [fs, if_neg]
    rintro ⟨h1, h2⟩
    rcases h with h | h
    · exact h h1
    · exact h b rfl h2
theorem fs_length : ∀ l : List Int, (fs l).length ≤ l.length
  | [] => by simp [fs]
  | [a] => by simp [fs]
  | a :: b :: r => by
    rw [fs]
    split
    · have := fs_length r; simp; omega
    · have := fs_length (b :: r); simp at this ⊢; omega
theorem drop_get {l : List Int} {i : Nat} {a : Int} (h : l[i]? = some a) : l.drop i = a :: l.drop (i + 1) := by
  have hlt := (List.getElem?_eq_some_iff.1 h).1
  rw [List.drop_eq_getElem_cons hlt]
  congr 1
  exact (List.getElem?_eq_some_iff.1 h).2
theorem drop_zero_get {l : List Int} {i : Nat} : (l.drop i)[0]? = l[i]? := by simp

theorem surB_out {a : Int} (h : a < 55296 ∨ 57343 < a) : surB a = a := by unfold surB; rw [if_neg]; omega
theorem surB_in {a : Int} (h : 55296 ≤ a ∧ a ≤ 57343) : surB a = 65533 := by unfold surB; rw [if_pos h]
theorem fs_out {a : Int} {l : List Int} (h : a < 55296 ∨ 57343 < a) : fs (a :: l) = a :: fs l := by rw [fs_one (.inl (by omega)), surB_out h]
theorem fs_lone {a : Int} {l : List Int} (h : 55296 ≤ a ∧ a ≤ 57343) (h2 : 56320 ≤ a ∨ ∀ b, l[0]? = some b → ¬ (56320 ≤ b ∧ b ≤ 57343)) : fs (a :: l) = 65533 :: fs l := by
  rw [fs_one (by rcases h2 with h2 | h2; · exact .inl (by omega)
                 · exact .inr h2), surB_in h]
theorem u16R_bad {r : Int} (h : goodB r = false) : u16R r = [65533] := by unfold u16R; rw [if_pos h]
theorem u16R_low {r : Int} (h : goodB r = true) (h6 : r < 65536) : u16R r = [r] := by unfold u16R; rw [if_neg (by simp [h]), if_pos h6]
theorem u16R_high {r : Int} (h : goodB r = true) (h6 : ¬ r < 65536) : u16R r = [55296 + (r - 65536) / 1024, 56320 + (r - 65536) % 1024] := by unfold u16R; rw [if_neg (by simp [h]), if_neg h6]
theorem u16s_cons (r : Int) (l : List Int) : u16s (r :: l) = u16R r ++ u16s l := by simp [u16s]
/-- there and back -/
theorem fs_u16s : ∀ l : List Int, fs (u16s l) = l.map fixR
  | [] => rfl
  | r :: l => by
    have ih := fs_u16s l
    rw [u16s_cons, List.map_cons]
    cases hg : goodB r
    · have hf : fixR r = 65533 := by unfold fixR; rw [if_neg (by simp [hg])]
      rw [u16R_bad hg, hf]
      show fs (65533 :: u16s l) = _
      rw [fs_out (by omega), ih]
    · have hf : fixR r = r := by unfold fixR; rw [if_pos hg]
      have h := (goodB_iff r).1 hg
      rw [hf]
      by_cases h6 : r < 65536
      · rw [u16R_low hg h6]
        show fs (r :: u16s l) = _
        rw [fs_out (by omega), ih]
      · rw [u16R_high hg h6]
        show fs (_ :: _ :: u16s l) = _
        rw [fs_pair _ (by omega), ih]
        congr 1
        omega

end Go.Proofs.Ytpbmgcnalhaajaa
