/- Plain laws of scanning markup. No program is named here. -/
import Derived.Test.YtoccmpaonicnnaaMendP
namespace Go.Proofs.Ytoccmpaonicnnaa
set_option linter.unusedVariables false
set_option linter.unusedSimpArgs false

/-- does a list end with another one? -/
def endsL (ws l : List Int) : Bool := decide (ws <:+ l)
theorem suffix_drop {ws l : List Int} : ws <:+ l ↔ ws.length ≤ l.length ∧ l.drop (l.length - ws.length) = ws := by
  constructor
  · rintro ⟨p, rfl⟩; simp
  · rintro ⟨h, h2⟩
    have := List.take_append_drop (l.length - ws.length) l
    rw [h2] at this
    exact ⟨_, this⟩
theorem endsL_short {ws l : List Int} (h : l.length < ws.length) : endsL ws l = false := by
  unfold endsL; rw [decide_eq_false_iff_not, suffix_drop]; omega
theorem endsL_all {ws l : List Int} (h : ws.length ≤ l.length) (ha : ∀ m, m < ws.length → l[l.length - ws.length + m]? = ws[m]?) : endsL ws l = true := by
  unfold endsL; rw [decide_eq_true_eq, suffix_drop]
  refine ⟨h, ?_⟩
  apply List.ext_getElem?
  intro m
  rw [List.getElem?_drop]
  by_cases hm : m < ws.length
  · exact ha m hm
  · rw [List.getElem?_eq_none (by omega), List.getElem?_eq_none (by omega)]
theorem endsL_miss {ws l : List Int} (h : ws.length ≤ l.length) {m : Nat} (hm : m < ws.length) (hne : l[l.length - ws.length + m]? ≠ ws[m]?) : endsL ws l = false := by
  unfold endsL; rw [decide_eq_false_iff_not, suffix_drop]
  rintro ⟨_, h2⟩
  apply hne
  rw [← h2, List.getElem?_drop, h2]

/-- how many runes end a comment -/
def endN (l : List Int) : Nat :=
  if l.length = 1 ∧ endsL [62] l = true then 1 else if l.length = 2 ∧ endsL [45, 62] l = true then 2 else if endsL [45, 45, 62] l = true then 3 else if endsL [45, 45, 33, 62] l = true then 4 else 0
/-- how many are left out if it ends here -/
def openN (k : Int) (l : List Int) : Nat :=
  if k ≠ 0 then 0 else if endsL [45, 45, 33] l = true then 3 else if endsL [45, 45] l = true then 2 else if endsL [45] l = true then 1 else 0
/-- is it over behind these? -/
def overL (k : Int) (l : List Int) : Bool := endsL [62] l && (decide (k ≠ 0) || decide (endN l ≠ 0))
theorem endsL_len {ws l : List Int} (h : endsL ws l = true) : ws.length ≤ l.length := by
  unfold endsL at h; rw [decide_eq_true_eq] at h; exact h.length_le
theorem endN_le (l : List Int) : endN l ≤ l.length := by
  unfold endN
  split
  · omega
  · split
    · omega
    · split
      · rename_i h; have := endsL_len h; simpa using this
      · split
        · rename_i h; have := endsL_len h; simpa using this
        · omega
theorem openN_le (k : Int) (l : List Int) : openN k l ≤ l.length := by
  unfold openN
  split
  · omega
  · split
    · rename_i h; have := endsL_len h; simpa using this
    · split
      · rename_i h; have := endsL_len h; simpa using this
      · split
        · rename_i h; have := endsL_len h; simpa using this
        · omega
theorem endsL_last (l : List Int) (r : Int) : endsL [62] (l ++ [r]) = decide (r = 62) := by
  unfold endsL
  by_cases h : r = 62
  · subst h; rw [decide_eq_true rfl, decide_eq_true_eq]; exact ⟨l, rfl⟩
  · rw [decide_eq_false h, decide_eq_false_iff_not]
    rintro ⟨p, hp⟩
    have := congrArg List.getLast? hp
    simp at this
    exact h this.symm

end Go.Proofs.Ytoccmpaonicnnaa
