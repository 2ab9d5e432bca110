/- The plain law of decoding: what the reference computes. No program is named here. -/
import Derived.Test.YtbdkiiaiadbmbaaDec
namespace Go.Proofs.Ytbdkiiaiadbmbaa
set_option linter.unusedVariables false
set_option linter.unusedSimpArgs false

/-- the reference's good: how many bytes, and whether all -/
def goodK (b : List Int) : Nat := if 128 ≤ b.getD 0 0 ∧ bndM (b.getD 0 0) < 0 then 0 else (rd b).2.1
def goodA (b : List Int) : Bool := decide ((rd b).2.2 = 0)

theorem rd_unfold {b : List Int} {c : Int} {N : Nat} (hc : b[0]? = some c) (h0 : 0 ≤ c) (hN : bndM c + 1 = (N : Int)) (h1 : 1 ≤ N) :
    ∃ x, rdGo b (N - 1) (N - 1) 1 x (bndL c) (bndH c) = rd b := by
  by_cases h8 : c < 128
  · refine ⟨c, ?_⟩
    have hm : bndM c = 0 := by simp [bndM, h8]
    obtain rfl : N = 1 := by omega
    simp [rd, hc, h8, rdGo]
  · have h2 : ¬ bndM c < 0 := by omega
    have e : N - 1 = (bndM c).toNat := by omega
    exact ⟨if bndM c = 1 then c % 32 else if bndM c = 2 then c % 16 else c % 8, by simp only [rd, hc, if_neg h8, if_neg h2, e]⟩

theorem rdGo_ok {b : List Int} {m f i : Nat} {r lo hi : Int} (h : (rdGo b m (f + 1) i r lo hi).2.2 = 0) :
    ∃ y, b[i]? = some y ∧ rdGo b m (f + 1) i r lo hi = rdGo b m f (i + 1) (r * 64 + y % 64) 128 191 := by
  rcases hy : b[i]? with _ | y
  · rw [rdGo_none hy] at h; simp at h
  · by_cases hb : y < lo ∨ hi < y
    · rw [rdGo_bad hy hb] at h; simp at h
    · exact ⟨y, rfl, rdGo_step hy (by omega) (by omega) _ _ _⟩

/-- how the reference's loop reads: nothing begins so -/
theorem goodK_zero {b : List Int} (hb : 0 < b.length) (h : goodK b = 0) : rd b = (65533, 1, 1) ∧ goodA b = false := by
  have hs := rd_size b hb
  unfold goodK at h
  split at h
  · rename_i hc
    have h8 : ¬ b[0] < 128 := by have := hc.1; simp [List.getD, List.getElem?_eq_getElem hb] at this; omega
    have h9 : bndM b[0] < 0 := by have := hc.2; simpa [List.getD, List.getElem?_eq_getElem hb] using this
    have e : rd b = (65533, 1, 1) := by simp [rd, List.getElem?_eq_getElem hb, h8, h9]
    exact ⟨e, by rw [goodA, e]; rfl⟩
  · omega
theorem goodK_pos {b : List Int} (h : goodK b ≠ 0) : goodK b = (rd b).2.1 := by
  unfold goodK at h ⊢
  split at h
  · exact absurd rfl h
  · rename_i hc; rw [if_neg hc]
theorem rd_wrong {b : List Int} (hb : 0 < b.length) (h : goodA b = false) : (rd b).1 = 65533 := by
  have h1 : (rd b).2.2 ≠ 0 := by simpa [goodA] using h
  have key : ∀ (f i : Nat) (r lo hi : Int) (m : Nat), (rdGo b m f i r lo hi).2.2 ≠ 0 → (rdGo b m f i r lo hi).1 = 65533 := by
    intro f
    induction f with
    | zero => intro i r lo hi m h; rw [rdGo_end] at h; exact absurd rfl h
    | succ f ih =>
      intro i r lo hi m h
      rcases hy : b[i]? with _ | y
      · rw [rdGo_none hy]
      · by_cases hb : y < lo ∨ hi < y
        · rw [rdGo_bad hy hb]
        · rw [rdGo_step hy (by omega) (by omega)] at h ⊢
          exact ih _ _ _ _ _ h
  unfold rd at h1 ⊢
  rw [List.getElem?_eq_getElem hb] at h1 ⊢
  simp only [] at h1 ⊢
  split
  · rename_i h8; rw [if_pos h8] at h1; exact absurd rfl h1
  · rename_i h8
    rw [if_neg h8] at h1
    split
    · rfl
    · rename_i h9; rw [if_neg h9] at h1; exact key _ _ _ _ _ _ h1

/-- all of a character: its bytes, its number -/
def chr1 (c : Int) : Int := c
theorem rd_right {b : List Int} {c : Int} (hc : b[0]? = some c) (h : goodA b = true) :
    (∃ (_ : c < 128), rd b = (c, 1, 0)) ∨
    (∃ y1, 128 ≤ c ∧ bndM c = 1 ∧ b[1]? = some y1 ∧ rd b = (c % 32 * 64 + y1 % 64, 2, 0)) ∨
    (∃ y1 y2, 128 ≤ c ∧ bndM c = 2 ∧ b[1]? = some y1 ∧ b[2]? = some y2 ∧ rd b = ((c % 16 * 64 + y1 % 64) * 64 + y2 % 64, 3, 0)) ∨
    (∃ y1 y2 y3, 128 ≤ c ∧ bndM c = 3 ∧ b[1]? = some y1 ∧ b[2]? = some y2 ∧ b[3]? = some y3 ∧ rd b = (((c % 8 * 64 + y1 % 64) * 64 + y2 % 64) * 64 + y3 % 64, 4, 0)) := by
  have h1 : (rd b).2.2 = 0 := by simpa [goodA] using h
  by_cases h8 : c < 128
  · exact .inl ⟨h8, by simp [rd, hc, h8]⟩
  · have h9 : ¬ bndM c < 0 := by
      intro h9; simp [rd, hc, h8, h9] at h1
    have hM : bndM c ≤ 3 := by unfold bndM; (repeat' split) <;> omega
    have h0 : bndM c ≠ 0 := by
      intro h0; unfold bndM at h0; (repeat' split at h0) <;> omega
    have e : rd b = rdGo b (bndM c).toNat (bndM c).toNat 1 (if bndM c = 1 then c % 32 else if bndM c = 2 then c % 16 else c % 8) (bndL c) (bndH c) := by
      simp only [rd, hc, if_neg h8, if_neg h9]
    rw [e] at h1
    rcases (show bndM c = 1 ∨ bndM c = 2 ∨ bndM c = 3 from by omega) with hm | hm | hm
    · refine .inr (.inl ?_)
      rw [hm] at h1 e
      obtain ⟨y1, hy1, e1⟩ := rdGo_ok (f := 0) h1
      exact ⟨y1, by omega, hm, hy1, by rw [e]; exact e1⟩
    · refine .inr (.inr (.inl ?_))
      rw [hm] at h1 e
      obtain ⟨y1, hy1, e1⟩ := rdGo_ok (f := 1) h1
      have h2 := h1
      rw [show rdGo b (2 : Int).toNat (2 : Int).toNat 1 _ _ _ = _ from e1] at h2
      obtain ⟨y2, hy2, e2⟩ := rdGo_ok (f := 0) h2
      exact ⟨y1, y2, by omega, hm, hy1, hy2, by rw [e]; exact e1.trans e2⟩
    · refine .inr (.inr (.inr ?_))
      rw [hm] at h1 e
      obtain ⟨y1, hy1, e1⟩ := rdGo_ok (f := 2) h1
      have h2 := h1
      rw [show rdGo b (3 : Int).toNat (3 : Int).toNat 1 _ _ _ = _ from e1] at h2
      obtain ⟨y2, hy2, e2⟩ := rdGo_ok (f := 1) h2
      have h3 := h2
      rw [show rdGo b (3 : Int).toNat _ _ _ _ _ = _ from e2] at h3
      obtain ⟨y3, hy3, e3⟩ := rdGo_ok (f := 0) h3
      exact ⟨y1, y2, y3, by omega, hm, hy1, hy2, hy3, by rw [e]; exact e1.trans (e2.trans e3)⟩

end Go.Proofs.Ytbdkiiaiadbmbaa
