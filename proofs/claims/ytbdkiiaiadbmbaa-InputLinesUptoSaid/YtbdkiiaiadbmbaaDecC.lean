/- Plain laws of decoding in pieces: what is sure, what is held, what is cut. No program is named here. -/
import Derived.Test.YtbdkiiaiadbmbaaDecB
namespace Go.Proofs.Ytbdkiiaiadbmbaa
set_option linter.unusedVariables false
set_option linter.unusedSimpArgs false

theorem rdGo_wrong (b : List Int) (m : Nat) : ∀ (f i : Nat) (r lo hi : Int), (rdGo b m f i r lo hi).2.2 = 1 → (rdGo b m f i r lo hi).2.1 < b.length
  | 0, i, r, lo, hi, h => by rw [rdGo_end] at h; simp at h
  | f + 1, i, r, lo, hi, h => by
    rcases hx : b[i]? with _ | x
    · rw [rdGo_none hx] at h; simp at h
    · have hlt : i < b.length := (List.getElem?_eq_some_iff.1 hx).1
      by_cases hb : x < lo ∨ hi < x
      · rw [rdGo_bad hx hb]; exact hlt
      · rw [rdGo_step hx (by omega) (by omega)] at h ⊢
        exact rdGo_wrong b m f (i + 1) _ _ _ h
theorem rd_wrong_short {b : List Int} (hb : 0 < b.length) (hK : goodK b ≠ 0) (h : (rd b).2.2 = 1) : (rd b).2.1 < b.length := by
  have hc : b[0]? = some b[0] := List.getElem?_eq_getElem hb
  have hg : b.getD 0 0 = b[0] := by simp [List.getD, hc]
  unfold goodK at hK
  rw [hg] at hK
  by_cases h8 : b[0] < 128
  · have e : rd b = (b[0], 1, 0) := by simp [rd, hc, h8]
    rw [e] at h; simp at h
  · by_cases h9 : bndM b[0] < 0
    · rw [if_pos ⟨by omega, h9⟩] at hK; exact absurd rfl hK
    · simp only [rd, hc, if_neg h8, if_neg h9] at h ⊢
      exact rdGo_wrong _ _ _ _ _ _ _ h

/-- what comes behind changes nothing, unless it was begun -/
theorem rdGo_more (b z : List Int) (m : Nat) : ∀ (f i : Nat) (r lo hi : Int), (rdGo b m f i r lo hi).2.2 ≠ 2 → rdGo (b ++ z) m f i r lo hi = rdGo b m f i r lo hi
  | 0, i, r, lo, hi, h => rfl
  | f + 1, i, r, lo, hi, h => by
    rcases hx : b[i]? with _ | x
    · rw [rdGo_none hx] at h; simp at h
    · have hx2 : (b ++ z)[i]? = some x := by rw [List.getElem?_append_left (List.getElem?_eq_some_iff.1 hx).1]; exact hx
      by_cases hb : x < lo ∨ hi < x
      · rw [rdGo_bad hx hb, rdGo_bad hx2 hb]
      · rw [rdGo_step hx (by omega) (by omega)] at h ⊢
        rw [rdGo_step hx2 (by omega) (by omega)]
        exact rdGo_more b z m f (i + 1) _ _ _ h
theorem rd_more {b : List Int} (hb : 0 < b.length) (z : List Int) (h : (rd b).2.2 ≠ 2) : rd (b ++ z) = rd b := by
  have hc : b[0]? = some b[0] := List.getElem?_eq_getElem hb
  have hc2 : (b ++ z)[0]? = some b[0] := by rw [List.getElem?_append_left hb]; exact hc
  unfold rd at h ⊢
  rw [hc] at h ⊢
  rw [hc2]
  simp only [] at h ⊢
  split
  · rfl
  · rename_i h8
    split
    · rfl
    · rename_i h9
      rw [if_neg h8, if_neg h9] at h
      exact rdGo_more _ _ _ _ _ _ _ _ h

/-- cut behind the rune: the same rune of as many bytes -/
theorem rdGo_cut (b : List Int) (m k : Nat) : ∀ (f i : Nat) (r lo hi : Int), f + i = m + 1 → (rdGo b m f i r lo hi).2.1 ≤ k → (rdGo (b.take k) m f i r lo hi).1 = (rdGo b m f i r lo hi).1 ∧ (rdGo (b.take k) m f i r lo hi).2.1 = (rdGo b m f i r lo hi).2.1
  | 0, i, r, lo, hi, hf, h => ⟨rfl, rfl⟩
  | f + 1, i, r, lo, hi, hf, h => by
    rcases hx : b[i]? with _ | x
    · have hx2 : (b.take k)[i]? = none := by rw [List.getElem?_take]; split <;> simp [hx]
      rw [rdGo_none hx, rdGo_none hx2]; exact ⟨rfl, rfl⟩
    · by_cases hb : x < lo ∨ hi < x
      · rw [rdGo_bad hx hb] at h ⊢
        by_cases hik : i < k
        · have hx2 : (b.take k)[i]? = some x := by rw [List.getElem?_take, if_pos hik]; exact hx
          rw [rdGo_bad hx2 hb]; exact ⟨rfl, rfl⟩
        · have hx2 : (b.take k)[i]? = none := by rw [List.getElem?_take, if_neg hik]
          rw [rdGo_none hx2]; exact ⟨rfl, rfl⟩
      · have hb2 : ¬ (x < lo ∨ hi < x) := hb
        rw [rdGo_step hx (by omega) (by omega)] at h ⊢
        have hge : ∀ (f i : Nat) (r lo hi : Int), f + i = m + 1 → i ≤ (rdGo b m f i r lo hi).2.1 := by
          intro f
          induction f with
          | zero => intro i r lo hi hf; rw [rdGo_end]; simp; omega
          | succ f ih =>
            intro i r lo hi hf
            rcases hy : b[i]? with _ | y
            · rw [rdGo_none hy]; exact Nat.le_refl _
            · by_cases hyb : y < lo ∨ hi < y
              · rw [rdGo_bad hy hyb]; exact Nat.le_refl _
              · rw [rdGo_step hy (by omega) (by omega)]
                have := ih (i + 1) (r * 64 + y % 64) 128 191 (by omega)
                omega
        have := hge f (i + 1) (r * 64 + x % 64) 128 191 (by omega)
        have hx2 : (b.take k)[i]? = some x := by rw [List.getElem?_take, if_pos (by omega)]; exact hx
        rw [rdGo_step hx2 (by omega) (by omega)]
        exact rdGo_cut b m k f (i + 1) _ _ _ (by omega) h
theorem rd_cut {b : List Int} (hb : 0 < b.length) {k : Nat} (h : (rd b).2.1 ≤ k) : (rd (b.take k)).1 = (rd b).1 ∧ (rd (b.take k)).2.1 = (rd b).2.1 := by
  have h1 := (rd_size b hb).1
  have hc : b[0]? = some b[0] := List.getElem?_eq_getElem hb
  have hc2 : (b.take k)[0]? = some b[0] := by rw [List.getElem?_take, if_pos (by omega)]; exact hc
  unfold rd at h ⊢
  rw [hc] at h ⊢
  rw [hc2]
  simp only [] at h ⊢
  split
  · exact ⟨rfl, rfl⟩
  · rename_i h8
    split
    · exact ⟨rfl, rfl⟩
    · rename_i h9
      rw [if_neg h8, if_neg h9] at h
      exact rdGo_cut _ _ _ _ _ _ _ _ (by omega) h

/-! the runes and the tail, piece by piece -/
theorem pcsF_runes : ∀ (f : Nat) (b : List Int) (p q : Nat), (pcsF f b p).map pcRune = (pcsF f b q).map pcRune
  | 0, _, _, _ => rfl
  | f + 1, b, p, q => by
    simp only [pcsF]
    split
    · rfl
    · simp only [List.map_cons, pcRune]
      rw [pcsF_runes f _ _ (q + (rd b).2.1)]
theorem pcsF_tl : ∀ (f : Nat) (b : List Int) (p q : Nat), tl (pcsF f b p) = tl (pcsF f b q)
  | 0, _, _, _ => rfl
  | f + 1, b, p, q => by
    simp only [pcsF]
    split
    · rfl
    · simp only [tl]
      rw [pcsF_tl f _ _ (q + (rd b).2.1)]
theorem pcs_is (b : List Int) : pcs b = pcsF b.length b 0 := by simp [pcs, pcsAt]
theorem pcs_cons {b : List Int} (hb : 0 < b.length) : pcs b = ⟨(rd b).1, 0, (rd b).2.1, (rd b).2.2⟩ :: pcsF (b.drop (rd b).2.1).length (b.drop (rd b).2.1) (rd b).2.1 := by
  have hs := rd_size b hb
  obtain ⟨g, hg⟩ : ∃ g, b.length = g + 1 := ⟨b.length - 1, by omega⟩
  have hne : b ≠ [] := by intro h; rw [h] at hb; simp at hb
  rw [pcs_is, hg]
  simp only [pcsF, if_neg hne, Nat.zero_add]
  rw [pcsF_fuel g _ _ (by simp; omega)]
theorem runes_nil : runesOf [] = [] := rfl
theorem runes_cons {b : List Int} (hb : 0 < b.length) : runesOf b = (rd b).1 :: runesOf (b.drop (rd b).2.1) := by
  rw [runesOf, pcs_cons hb, runesOf, pcs_is]
  simp only [List.map_cons, pcRune]
  rw [pcsF_runes _ _ _ 0]
theorem tailOf_nil : tailOf [] = 0 := rfl
theorem tailOf_cons {b : List Int} (hb : 0 < b.length) : tailOf b = if (rd b).2.2 = 2 then (rd b).2.1 else tailOf (b.drop (rd b).2.1) := by
  rw [tailOf, pcs_cons hb, tailOf, pcs_is]
  simp only [tl]
  rw [pcsF_tl _ _ _ 0]
theorem tailOf_le : ∀ (n : Nat) (b : List Int), b.length ≤ n → tailOf b ≤ b.length
  | 0, b, h => by obtain rfl : b = [] := List.eq_nil_of_length_eq_zero (by omega); simp [tailOf_nil]
  | n + 1, b, h => by
    by_cases hb : 0 < b.length
    · have hs := rd_size b hb
      rw [tailOf_cons hb]
      split
      · exact hs.2.1
      · have := tailOf_le n (b.drop (rd b).2.1) (by simp; omega)
        simp at this; omega
    · obtain rfl : b = [] := List.eq_nil_of_length_eq_zero (by omega)
      simp [tailOf_nil]
theorem tail_le (b : List Int) : tailOf b ≤ b.length := tailOf_le _ b (Nat.le_refl _)

/-- what is told of bytes when more may come, and what is held back -/
def tell (b : List Int) : List Int := runesOf (b.take (b.length - tailOf b))
def heldOf (b : List Int) : List Int := b.drop (b.length - tailOf b)
theorem heldOf_length (b : List Int) : (heldOf b).length = tailOf b := by have := tail_le b; simp [heldOf]; omega
theorem tell_cons {b : List Int} (hb : 0 < b.length) (h : (rd b).2.2 ≠ 2) : tell b = (rd b).1 :: tell (b.drop (rd b).2.1) := by
  have hs := rd_size b hb
  have ht := tail_le (b.drop (rd b).2.1)
  simp at ht
  have hc := rd_cut hb (k := b.length - tailOf b) (by rw [tailOf_cons hb, if_neg h]; omega)
  have e : tailOf b = tailOf (b.drop (rd b).2.1) := by rw [tailOf_cons hb, if_neg h]
  unfold tell
  rw [runes_cons (by simp; omega), hc.1, hc.2, e]
  congr 2
  rw [List.drop_take]
  congr 1
  simp; omega
theorem tell_all {b : List Int} (hb : 0 < b.length) (h : (rd b).2.2 = 2) : tell b = [] := by
  have hs := rd_size b hb
  have e : tailOf b = b.length := by rw [tailOf_cons hb, if_pos h]; exact hs.2.2.2.1 h
  unfold tell
  rw [e, Nat.sub_self]
  rfl
theorem held_cons {b : List Int} (hb : 0 < b.length) (h : (rd b).2.2 ≠ 2) : heldOf b = heldOf (b.drop (rd b).2.1) := by
  have hs := rd_size b hb
  have ht := tail_le (b.drop (rd b).2.1)
  simp at ht
  have e : tailOf b = tailOf (b.drop (rd b).2.1) := by rw [tailOf_cons hb, if_neg h]
  unfold heldOf
  rw [e, List.drop_drop]
  congr 1
  simp; omega
theorem held_all {b : List Int} (hb : 0 < b.length) (h : (rd b).2.2 = 2) : heldOf b = b := by
  have hs := rd_size b hb
  have e : tailOf b = b.length := by rw [tailOf_cons hb, if_pos h]; exact hs.2.2.2.1 h
  unfold heldOf
  rw [e, Nat.sub_self]
  rfl

theorem pieces_law (z : List Int) : ∀ (n : Nat) (b : List Int), b.length ≤ n →
    tailOf (b ++ z) = tailOf (heldOf b ++ z) ∧ tell (b ++ z) = tell b ++ tell (heldOf b ++ z) ∧ runesOf (b ++ z) = tell b ++ runesOf (heldOf b ++ z)
  | 0, b, h => by obtain rfl : b = [] := List.eq_nil_of_length_eq_zero (by omega); exact ⟨rfl, rfl, rfl⟩
  | n + 1, b, h => by
    by_cases hb : 0 < b.length
    · have hs := rd_size b hb
      by_cases hw : (rd b).2.2 = 2
      · rw [tell_all hb hw, held_all hb hw]; exact ⟨rfl, rfl, rfl⟩
      · have hm := rd_more hb z hw
        have hbz : 0 < (b ++ z).length := by simp; omega
        have hd : (b ++ z).drop (rd b).2.1 = b.drop (rd b).2.1 ++ z := by rw [List.drop_append_of_le_length hs.2.1]
        obtain ⟨i1, i2, i3⟩ := pieces_law z n (b.drop (rd b).2.1) (by simp; omega)
        rw [tailOf_cons hbz, tell_cons hbz (by rw [hm]; exact hw), runes_cons hbz, hm, if_neg hw, hd, tell_cons hb hw, held_cons hb hw, i1, i2, i3]
        exact ⟨rfl, rfl, rfl⟩
    · obtain rfl : b = [] := List.eq_nil_of_length_eq_zero (by omega)
      exact ⟨rfl, rfl, rfl⟩
theorem tail_feed (b z : List Int) : tailOf (b ++ z) = tailOf (heldOf b ++ z) := (pieces_law z _ b (Nat.le_refl _)).1
theorem tell_feed (b z : List Int) : tell (b ++ z) = tell b ++ tell (heldOf b ++ z) := (pieces_law z _ b (Nat.le_refl _)).2.1
theorem tell_end (b : List Int) : runesOf b = tell b ++ runesOf (heldOf b) := by
  have := (pieces_law [] _ b (Nat.le_refl _)).2.2
  simpa using this
theorem drop_tail (x h z : List Int) (t : Nat) (ht : t ≤ (h ++ z).length) : (x ++ h ++ z).drop ((x ++ h ++ z).length - t) = (h ++ z).drop ((h ++ z).length - t) := by
  rw [List.append_assoc, List.drop_append]
  simp only [List.length_append] at ht ⊢
  rw [List.drop_eq_nil_of_le (by omega), List.nil_append]
  congr 1
  omega
theorem held_feed (b z : List Int) : heldOf (b ++ z) = heldOf (heldOf b ++ z) := by
  have ht := tail_feed b z
  have h2 := tail_le (heldOf b ++ z)
  have hs : b.take (b.length - tailOf b) ++ heldOf b = b := List.take_append_drop _ _
  have h := drop_tail (b.take (b.length - tailOf b)) (heldOf b) z _ h2
  rw [hs] at h
  show (b ++ z).drop ((b ++ z).length - tailOf (b ++ z)) = _
  rw [ht]
  exact h

/-! the last piece: the reference's Tail -/
theorem last_piece (b : List Int) : ∀ (n p : Nat), b.length - p ≤ n → p < b.length → ∃ (pre : List Pc) (c : Pc), pcsAt b p = pre ++ [c] ∧ c.pos < b.length ∧ rd (b.drop c.pos) = (c.r, c.n, c.what) ∧ c.pos + c.n = b.length ∧ tl (pcsAt b p) = if c.what = 2 then c.n else 0
  | 0, p, h, hp => by omega
  | n + 1, p, h, hp => by
    have hl : 0 < (b.drop p).length := by simp; omega
    have hs := rd_size (b.drop p) hl
    simp only [List.length_drop] at hs
    rw [pcsAt_cons b p hp]
    by_cases he : p + (rd (b.drop p)).2.1 < b.length
    · obtain ⟨pre, c, h1, h2, h3, h4, h5⟩ := last_piece b n (p + (rd (b.drop p)).2.1) (by omega) he
      refine ⟨_ :: pre, c, by rw [h1]; rfl, h2, h3, h4, ?_⟩
      simp only [tl]
      rw [if_neg (fun hw => by have := hs.2.2.2.1 hw; omega), h5]
    · rw [pcsAt_end b _ (by omega)]
      exact ⟨[], _, rfl, hp, rfl, by simp only []; omega, by simp [tl]⟩
theorem ref_tail (b : List Int) (hb : 0 < b.length) : ∃ (pre : List Pc) (c : Pc), pcs b = pre ++ [c] ∧ c.pos < b.length ∧
    ((goodA (b.drop c.pos) = true ∧ tailOf b = 0) ∨ (goodA (b.drop c.pos) = false ∧ goodK (b.drop c.pos) = 0 ∧ tailOf b = 0) ∨ (goodA (b.drop c.pos) = false ∧ goodK (b.drop c.pos) ≠ 0 ∧ c.pos + goodK (b.drop c.pos) = b.length ∧ tailOf b = goodK (b.drop c.pos))) := by
  obtain ⟨pre, c, h1, h2, h3, h4, h5⟩ := last_piece b b.length 0 (by omega) hb
  have hl : 0 < (b.drop c.pos).length := by simp; omega
  have hs := rd_size (b.drop c.pos) hl
  refine ⟨pre, c, h1, h2, ?_⟩
  have h5' : tailOf b = if c.what = 2 then c.n else 0 := h5
  have hn : (rd (b.drop c.pos)).2.1 = c.n := by rw [h3]
  have hw : (rd (b.drop c.pos)).2.2 = c.what := by rw [h3]
  cases hA : goodA (b.drop c.pos)
  · have hw0 : c.what ≠ 0 := by intro h; rw [goodA, hw, h] at hA; simp at hA
    by_cases hK : goodK (b.drop c.pos) = 0
    · refine .inr (.inl ⟨rfl, hK, ?_⟩)
      have := (goodK_zero hl hK).1
      rw [h3] at this
      have hw1 : c.what = 1 := by simpa using congrArg (·.2.2) this
      rw [h5', if_neg (by omega)]
    · refine .inr (.inr ⟨rfl, hK, ?_, ?_⟩)
      · rw [goodK_pos hK, hn]; exact h4
      · rw [h5', goodK_pos hK, hn]
        rw [if_pos]
        rcases hs.2.2.2.2 with h | h | h
        · exact absurd (hw.symm.trans h) hw0
        · have := rd_wrong_short hl hK h
          simp only [List.length_drop] at this
          omega
        · exact hw.symm.trans h
  · refine .inl ⟨rfl, ?_⟩
    have hw0 : c.what = 0 := by rw [← hw]; simpa [goodA] using hA
    rw [h5', hw0]; rfl

end Go.Proofs.Ytbdkiiaiadbmbaa
