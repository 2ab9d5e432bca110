/- The plain laws of mending: the text of the runes of bytes. No program is named here. -/
import Derived.Test.YtbdkiiaiadbmbaaBack
import Derived.Test.YtbdkiiaiadbmbaaReads1
namespace Go.Proofs.Ytbdkiiaiadbmbaa
set_option linter.unusedVariables false
set_option linter.unusedSimpArgs false

def mendOf (xs : List Int) : List Int := encs (runesOf xs)
theorem mendOf_byts (xs : List Int) : Byts (mendOf xs) := encs_byts _

theorem pcsF_vd : ∀ (f : Nat) (b : List Int) (p q : Nat), vd (pcsF f b p) = vd (pcsF f b q)
  | 0, _, _, _ => rfl
  | f + 1, b, p, q => by
    simp only [pcsF]
    split
    · rfl
    · simp only [vd, List.all_cons]
      have := pcsF_vd f (b.drop (rd b).2.1) (p + (rd b).2.1) (q + (rd b).2.1)
      simp only [vd] at this
      rw [this]
theorem valid_nil : validOf [] = true := rfl
theorem valid_cons {b : List Int} (hb : 0 < b.length) : validOf b = (decide ((rd b).2.2 = 0) && validOf (b.drop (rd b).2.1)) := by
  rw [validOf, pcs_cons hb, validOf, pcs_is]
  simp only [vd, List.all_cons]
  congr 1
  have := pcsF_vd (b.drop (rd b).2.1).length (b.drop (rd b).2.1) (rd b).2.1 0
  simp only [vd] at this
  exact this
theorem pcsAt_valid (b : List Int) (p : Nat) : vd (pcsAt b p) = validOf (b.drop p) := by
  rw [validOf, pcs_is]
  unfold pcsAt
  rw [pcsF_vd _ _ p 0]
  simp

/-- induction along the pieces -/
theorem pieces_ind {C : List Int → Prop} (h0 : C []) (h1 : ∀ b, 0 < b.length → C (b.drop (rd b).2.1) → C b) (b : List Int) : C b := by
  have : ∀ (n : Nat) (b : List Int), b.length ≤ n → C b := by
    intro n
    induction n with
    | zero => intro b hb; obtain rfl : b = [] := List.eq_nil_of_length_eq_zero (by omega); exact h0
    | succ n ih =>
      intro b hb
      by_cases h : 0 < b.length
      · have := rd_size b h
        exact h1 b h (ih _ (by simp; omega))
      · obtain rfl : b = [] := List.eq_nil_of_length_eq_zero (by omega); exact h0
  exact this _ b (Nat.le_refl _)
theorem encs_cons (r : Int) (l : List Int) : encs (r :: l) = encR r ++ encs l := by simp [encs]
theorem encs_append (l m : List Int) : encs (l ++ m) = encs l ++ encs m := by simp [encs]

theorem mend_valid {xs : List Int} (hb : Byts xs) (h : validOf xs = true) : mendOf xs = xs := by
  revert hb h
  refine pieces_ind (C := fun xs => Byts xs → validOf xs = true → mendOf xs = xs) (fun _ _ => rfl) (fun b h0 ih hb h => ?_) xs
  rw [valid_cons h0] at h
  simp only [Bool.and_eq_true, decide_eq_true_eq] at h
  rw [mendOf, runes_cons h0, encs_cons, rd_bytes hb h0 h.1]
  have := ih (hb.drop _) h.2
  unfold mendOf at this
  rw [this, List.take_append_drop]
theorem runes_enc (l : List Int) : runesOf (encs l) = l.map fixR := by
  induction l with
  | nil => rfl
  | cons r l ih =>
    have h := rd_enc r (encs l)
    have h1 := (encC_length (fixR r)).1
    have h0 : 0 < (encR r ++ encs l).length := by simp [encR]; omega
    rw [encs_cons, runes_cons h0, h]
    simp only [List.drop_left, List.map_cons]
    rw [ih]
theorem valid_enc (l : List Int) : validOf (encs l) = true := by
  induction l with
  | nil => rfl
  | cons r l ih =>
    have h := rd_enc r (encs l)
    have h1 := (encC_length (fixR r)).1
    have h0 : 0 < (encR r ++ encs l).length := by simp [encR]; omega
    rw [encs_cons, valid_cons h0, h]
    simp only [List.drop_left, decide_true, Bool.true_and]
    exact ih
theorem mend_is_valid (xs : List Int) : validOf (mendOf xs) = true := valid_enc _
theorem mend_mend (xs : List Int) : mendOf (mendOf xs) = mendOf xs := mend_valid (mendOf_byts xs) (mend_is_valid xs)
theorem runes_good {b : List Int} (hb : Byts b) : ∀ r ∈ runesOf b, goodB r = true := by
  revert hb
  refine pieces_ind (C := fun xs => Byts xs → ∀ r ∈ runesOf xs, goodB r = true) (fun _ r hr => by simp [runes_nil] at hr) (fun b h0 ih hb r hr => ?_) b
  rw [runes_cons h0, List.mem_cons] at hr
  rcases hr with rfl | hr
  · exact rd_good hb h0
  · exact ih (hb.drop _) r hr
theorem fixR_id {r : Int} (h : goodB r = true) : fixR r = r := by simp [fixR, h]
theorem runes_mend {xs : List Int} (hb : Byts xs) : runesOf (mendOf xs) = runesOf xs := by
  rw [mendOf, runes_enc]
  have := runes_good hb
  have h2 : List.map fixR (runesOf xs) = List.map id (runesOf xs) := List.map_congr_left fun r hr => fixR_id (this r hr)
  rw [h2]; simp
theorem mend_same_iff {xs : List Int} (hb : Byts xs) : mendOf xs = xs ↔ validOf xs = true :=
  ⟨fun h => by rw [← h]; exact mend_is_valid xs, mend_valid hb⟩

/-- what stands at a place that is read as 65533: its three bytes, if it is whole -/
theorem rd_fffd {b : List Int} (hb : Byts b) (h0 : 0 < b.length) : ((rd b).2.2 = 0 ∧ (rd b).1 = 65533) ↔ b.take 3 = [239, 191, 189] := by
  constructor
  · rintro ⟨h1, h2⟩
    have h3 := (rd_whole hb h0 h1).2
    rw [h2] at h3
    have e : encC 65533 = [239, 191, 189] := by decide +kernel
    rw [e] at h3
    have hn : (rd b).2.1 = 3 := by
      have := congrArg List.length h3
      have hs := rd_size b h0
      simp at this; omega
    rw [hn] at h3; exact h3.symm
  · intro h
    have : b = [239, 191, 189] ++ b.drop 3 := by rw [← h, List.take_append_drop]
    rw [this]
    have := rd_encC (c := 65533) (b.drop 3) rfl
    have e : encC 65533 = [239, 191, 189] := by decide +kernel
    rw [e] at this
    rw [this]; exact ⟨rfl, rfl⟩

end Go.Proofs.Ytbdkiiaiadbmbaa
