/- The stream's plain side: cells of bytes that come in pieces. No program is named here. -/
import Derived.Test.YtbdkiiaiadbmbaaInPl
import Derived.Test.YtbdkiiaiadbmbaaCells
namespace Go.Proofs.Ytbdkiiaiadbmbaa
open Go.RowKit
set_option linter.unusedVariables false
set_option linter.unusedSimpArgs false

theorem bnd_rng {c : Int} (h : 1 ≤ bndM c) : 128 ≤ bndL c ∧ bndH c ≤ 191 ∧ 194 ≤ c := by
  unfold bndM at h
  unfold bndL bndH
  have : 194 ≤ c ∧ c ≤ 244 := by
    split at h
    · omega
    · split at h
      · omega
      · split at h
        · omega
        · split at h
          · omega
          · omega
  refine ⟨?_, ?_, this.1⟩
  · repeat (first | omega | split)
  · repeat (first | omega | split)
theorem rdGo_stop (x t : List Int) (c : Int) (hc : c < 128 ∨ 192 ≤ c) (m : Nat) : ∀ (f i : Nat) (r lo hi : Int), 128 ≤ lo → hi ≤ 191 → i ≤ x.length →
    (rdGo (x ++ c :: t) m f i r lo hi).1 = (rdGo x m f i r lo hi).1 ∧ (rdGo (x ++ c :: t) m f i r lo hi).2.1 = (rdGo x m f i r lo hi).2.1 ∧ (rdGo (x ++ c :: t) m f i r lo hi).2.2 ≠ 2
  | 0, i, r, lo, hi, h1, h2, h3 => by simp [rdGo]
  | f + 1, i, r, lo, hi, h1, h2, h3 => by
    by_cases hi2 : i < x.length
    · have e1 : (x ++ c :: t)[i]? = x[i]? := List.getElem?_append_left hi2
      obtain ⟨u, hu⟩ := get_of_lt x hi2
      rw [hu] at e1
      simp only [rdGo, e1, hu]
      by_cases hb : u < lo ∨ hi < u
      · simp [hb]
      · simp only [hb, if_false]
        exact rdGo_stop x t c hc m f (i + 1) _ 128 191 (by omega) (by omega) (by omega)
    · obtain rfl : i = x.length := by omega
      have e1 : (x ++ c :: t)[x.length]? = some c := by simp
      have e2 : x[x.length]? = none := by simp
      simp only [rdGo, e1, e2]
      rw [if_pos (by omega)]
      exact ⟨rfl, rfl, by simp⟩
theorem rd_stop {x : List Int} (t : List Int) {c : Int} (hc : c < 128 ∨ 192 ≤ c) (hx : 0 < x.length) :
    (rd (x ++ c :: t)).1 = (rd x).1 ∧ (rd (x ++ c :: t)).2.1 = (rd x).2.1 ∧ (rd (x ++ c :: t)).2.2 ≠ 2 := by
  obtain ⟨d, hd⟩ := get_of_lt x hx
  have e1 : (x ++ c :: t)[0]? = some d := by rw [List.getElem?_append_left hx]; exact hd
  unfold rd
  simp only [e1, hd]
  by_cases h1 : d < 128
  · simp [h1]
  · by_cases h2 : bndM d < 0
    · simp [h1, h2]
    · simp only [h1, h2, if_false]
      by_cases h3 : 1 ≤ bndM d
      · obtain ⟨b1, b2, _⟩ := bnd_rng h3
        exact rdGo_stop x t c hc _ _ _ _ _ _ b1 b2 (by omega)
      · have : (bndM d).toNat = 0 := by omega
        rw [this]
        simp [rdGo]
theorem rd_cases (b : List Int) (hb : Byt b) {c : Int} (hc : b[0]? = some c) : (c < 128 ∧ rd b = (c, 1, 0)) ∨ (128 ≤ c ∧ (rd b).1 ≠ 10 ∧ (rd b).1 ≠ 13) := by
  by_cases h : c < 128
  · left
    refine ⟨h, ?_⟩
    unfold rd
    simp [hc, h]
  · right
    have h0 : 0 < b.length := (List.getElem?_eq_some_iff.1 hc).1
    refine ⟨by omega, ?_⟩
    by_cases hw : (rd b).2.2 = 0
    · have hg := (rd_whole hb.byts h0 hw).2
      have hn := (rd_size b h0).1
      have hz : ∀ v : Int, v < 128 → encC v = [v] → (rd b).1 ≠ v := by
        intro v hv he hr
        rw [hr, he] at hg
        have h1 : (b.take (rd b).2.1)[0]? = some c := by rw [List.getElem?_take, if_pos (by omega)]; exact hc
        rw [← hg] at h1
        simp at h1
        omega
      exact ⟨hz 10 (by omega) (by decide), hz 13 (by omega) (by decide)⟩
    · have := rd_wrong h0 (by simpa [goodA] using hw)
      omega
theorem wdF (b : List Int) : ∀ (f p q : Nat), (pcsF f b p).map (fun c => (c.r, c.n)) = (pcsF f b q).map (fun c => (c.r, c.n)) := by
  intro f
  induction f generalizing b with
  | zero => intro p q; rfl
  | succ f ih =>
    intro p q
    simp only [pcsF]
    split
    · rfl
    · simp only [List.map_cons]
      rw [ih _ _ (q + (rd b).2.1)]
theorem wd_nil : wd [] = [] := rfl
theorem wd_cons {b : List Int} (hb : 0 < b.length) : wd b = ((rd b).1, (rd b).2.1) :: wd (b.drop (rd b).2.1) := by
  have e : ∀ x : List Int, wd x = (pcs x).map fun c => (c.r, c.n) := fun x => rfl
  rw [e, pcs_cons hb, e, pcs_is]
  simp only [List.map_cons]
  rw [wdF _ _ _ 0]
/-- what comes behind does not join what stands ahead -/
theorem wd_split (y : List Int) : ∀ x : List Int, (tailOf x = 0 ∨ ∃ c t, y = c :: t ∧ (c < 128 ∨ 192 ≤ c)) → wd (x ++ y) = wd x ++ wd y ∧ tailOf (x ++ y) = tailOf y := by
  refine pieces_ind (C := fun x => (tailOf x = 0 ∨ ∃ c t, y = c :: t ∧ (c < 128 ∨ 192 ≤ c)) → wd (x ++ y) = wd x ++ wd y ∧ tailOf (x ++ y) = tailOf y) (fun _ => ⟨rfl, rfl⟩) ?_
  intro x hx ih h
  have hs := rd_size x hx
  have hl : 0 < (x ++ y).length := by simp; omega
  have hrd : (rd (x ++ y)).1 = (rd x).1 ∧ (rd (x ++ y)).2.1 = (rd x).2.1 ∧ (rd (x ++ y)).2.2 ≠ 2 := by
    by_cases hw : (rd x).2.2 = 2
    · rcases h with h | ⟨c, t, rfl, hc⟩
      · rw [tailOf_cons hx, if_pos hw] at h; omega
      · exact rd_stop t hc hx
    · rw [rd_more hx y hw]; exact ⟨rfl, rfl, hw⟩
  have h2 : tailOf (x.drop (rd x).2.1) = 0 ∨ ∃ c t, y = c :: t ∧ (c < 128 ∨ 192 ≤ c) := by
    rcases h with h | h
    · rw [tailOf_cons hx] at h
      split at h
      · omega
      · exact .inl h
    · exact .inr h
  obtain ⟨i1, i2⟩ := ih h2
  have hd : (x ++ y).drop (rd x).2.1 = x.drop (rd x).2.1 ++ y := List.drop_append_of_le_length hs.2.1
  rw [wd_cons hl, wd_cons hx, hrd.1, hrd.2.1, hd, i1, tailOf_cons hl, if_neg hrd.2.2, hrd.2.1, hd, i2]
  exact ⟨rfl, rfl⟩

/-- how the sure bytes end, how the others begin -/
theorem sure_spec (F : List Int) (hb : Byt F) :
    (∃ t, F.drop (sureOf false F) = 13 :: t) ∨ (∃ c t, F.drop (sureOf false F) = c :: t ∧ 192 ≤ c) ∨ (F.drop (sureOf false F) = [] ∧ tailOf F = 0 ∧ ∀ r, F.getLast? = some r → r ≠ 13) := by
  have htl := tail_le F
  by_cases hcr : 0 < F.length - tailOf F ∧ F[F.length - tailOf F - 1]? = some 13
  · left
    have hS : sureOf false F = F.length - tailOf F - 1 := by unfold sureOf; simp only [Bool.false_eq_true, if_false]; rw [if_pos hcr]
    rw [hS]
    obtain ⟨hlt, he⟩ := List.getElem?_eq_some_iff.1 hcr.2
    exact ⟨_, by rw [List.drop_eq_getElem_cons hlt, he]⟩
  · right
    have hS : sureOf false F = F.length - tailOf F := by unfold sureOf; simp only [Bool.false_eq_true, if_false]; rw [if_neg hcr]
    rw [hS]
    by_cases h0 : 0 < F.length
    · obtain ⟨pre, c, h1, h2, h3, h4, h5⟩ := last_piece F F.length 0 (by omega) h0
      have htt : tailOf F = if c.what = 2 then c.n else 0 := h5
      by_cases hw : c.what = 2
      · left
        rw [if_pos hw] at htt
        have hn : F.length - tailOf F = c.pos := by omega
        rw [hn]
        have hlt : c.pos < F.length := h2
        refine ⟨F[c.pos], _, List.drop_eq_getElem_cons hlt, ?_⟩
        have hc0 : (F.drop c.pos)[0]? = some F[c.pos] := by rw [List.getElem?_drop, Nat.add_zero, List.getElem?_eq_getElem hlt]
        have hwd : (rd (F.drop c.pos)).2.2 = 2 := by rw [h3]; exact hw
        unfold rd at hwd
        simp only [hc0] at hwd
        split at hwd
        · simp at hwd
        · split at hwd
          · simp at hwd
          · by_cases hm : 1 ≤ bndM F[c.pos]
            · have := (bnd_rng hm).2.2; omega
            · have : (bndM F[c.pos]).toNat = 0 := by omega
              rw [this] at hwd
              simp [rdGo] at hwd
      · right
        rw [if_neg hw] at htt
        rw [htt] at hcr ⊢
        refine ⟨by simp, rfl, fun r hr e => hcr ⟨by omega, ?_⟩⟩
        rw [List.getLast?_eq_getElem?] at hr
        rw [Nat.sub_zero, hr, e]
    · obtain rfl : F = [] := List.eq_nil_of_length_eq_zero (by omega)
      right
      exact ⟨rfl, rfl, fun r hr => by simp at hr⟩
/-- the first rune of bytes that begin so; the last of bytes that end so -/
theorem wd_first {c : Int} {t : List Int} (hb : Byt (c :: t)) (hc : c ≠ 10) : ∀ x, (wd (c :: t)).head? = some x → x.1 ≠ 10 := by
  intro x hx
  rw [wd_cons (by simp)] at hx
  simp at hx
  subst hx
  rcases rd_cases (c :: t) hb (c := c) rfl with ⟨_, h⟩ | ⟨_, h, _⟩
  · rw [h]; exact hc
  · exact h
theorem wd_last {F : List Int} (hb : Byt F) (h : ∀ r, F.getLast? = some r → r ≠ 13) : ∀ x, (wd F).getLast? = some x → x.1 ≠ 13 := by
  intro x hx
  by_cases h0 : 0 < F.length
  · obtain ⟨pre, c, h1, h2, h3, h4, h5⟩ := last_piece F F.length 0 (by omega) h0
    have hwd : wd F = pre.map (fun c => (c.r, c.n)) ++ [(c.r, c.n)] := by
      show (pcsAt F 0).map _ = _
      rw [h1]; simp
    rw [hwd] at hx
    simp at hx
    subst hx
    intro e
    simp only at e
    have hlt : c.pos < F.length := h2
    have hc0 : (F.drop c.pos)[0]? = some F[c.pos] := by rw [List.getElem?_drop, Nat.add_zero, List.getElem?_eq_getElem hlt]
    rcases rd_cases _ (hb.drop c.pos) hc0 with ⟨_, hq⟩ | ⟨_, _, hq⟩
    · rw [h3] at hq
      injection hq with q1 q2
      injection q2 with q2 q3
      refine h 13 ?_ rfl
      rw [List.getLast?_eq_getElem?, show F.length - 1 = c.pos from by omega, List.getElem?_eq_getElem hlt, ← q1, e]
    · rw [h3] at hq
      exact hq e
  · obtain rfl : F = [] := List.eq_nil_of_length_eq_zero (by omega)
    simp [wd_nil] at hx
theorem gr_split : ∀ {a b : List (Int × Nat)}, (∀ x y, a.getLast? = some x → b.head? = some y → ¬ (x.1 = 13 ∧ y.1 = 10)) → gr (a ++ b) = gr a ++ gr b
  | [], b, _ => rfl
  | [x], [], h => by simp [gr]
  | [x], y :: b, h => by
    have := h x y rfl rfl
    simp only [List.cons_append, List.nil_append, gr]
    rw [if_neg this]
  | x :: y :: t, b, h => by
    simp only [List.cons_append, gr]
    split
    · cases t with
      | nil => simp [gr]
      | cons z t => rw [gr_split (a := z :: t) (b := b) (fun u v hu hv => h u v (by simpa using hu) hv)]; rfl
    · have := gr_split (a := y :: t) (b := b) (fun u v hu hv => h u v (by simpa using hu) hv)
      simp only [List.cons_append] at this
      rw [this]; rfl
/-- sure bytes and whatever follows -/
theorem sure_split (F z : List Int) (hF : Byt F) (hz : Byt (F.drop (sureOf false F) ++ z)) :
    wd (F ++ z) = wd (F.take (sureOf false F)) ++ wd (F.drop (sureOf false F) ++ z) ∧ tailOf (F ++ z) = tailOf (F.drop (sureOf false F) ++ z) ∧
    gr (wd (F ++ z)) = gr (wd (F.take (sureOf false F))) ++ gr (wd (F.drop (sureOf false F) ++ z)) := by
  have hsp := sure_spec F hF
  have hFz : F ++ z = F.take (sureOf false F) ++ (F.drop (sureOf false F) ++ z) := by rw [← List.append_assoc, List.take_append_drop]
  have hx := hF.take (sureOf false F)
  have hlen : F.drop (sureOf false F) = [] → F.take (sureOf false F) = F := fun h => by
    have := List.take_append_drop (sureOf false F) F
    rw [h, List.append_nil] at this
    exact this
  generalize F.take (sureOf false F) = x at *
  generalize F.drop (sureOf false F) = h at *
  have hc : (tailOf x = 0 ∨ ∃ c t, h ++ z = c :: t ∧ (c < 128 ∨ 192 ≤ c)) := by
    rcases hsp with ⟨t, rfl⟩ | ⟨c, t, rfl, hc⟩ | ⟨rfl, ht, _⟩
    · exact .inr ⟨13, t ++ z, rfl, by omega⟩
    · exact .inr ⟨c, t ++ z, rfl, by omega⟩
    · left; rw [hlen rfl]; exact ht
  obtain ⟨w1, w2⟩ := wd_split (h ++ z) x hc
  rw [hFz]
  refine ⟨w1, w2, ?_⟩
  rw [w1]
  refine gr_split fun u v hu hv => ?_
  rintro ⟨e1, e2⟩
  rcases hsp with ⟨t, rfl⟩ | ⟨c, t, rfl, hc⟩ | ⟨rfl, _, hl⟩
  · exact wd_first hz (by omega) v hv e2
  · exact wd_first hz (by omega) v hv e2
  · have e := hlen rfl
    rw [← e] at hl
    exact wd_last hx hl u hu e1
/-- one piece more -/
theorem sure_feed (F z : List Int) (hF : Byt F) (hz : Byt (F.drop (sureOf false F) ++ z)) :
    sureOf false (F ++ z) = sureOf false F + sureOf false (F.drop (sureOf false F) ++ z) := by
  obtain ⟨_, ht, _⟩ := sure_split F z hF hz
  have hsp := sure_spec F hF
  have hle := sure_le false F
  have hl : (F ++ z).length = sureOf false F + (F.drop (sureOf false F) ++ z).length := by simp; omega
  have hg : ∀ i, (F ++ z)[sureOf false F + i]? = (F.drop (sureOf false F) ++ z)[i]? := by
    intro i
    have hFz : F ++ z = F.take (sureOf false F) ++ (F.drop (sureOf false F) ++ z) := by rw [← List.append_assoc, List.take_append_drop]
    have hxl : (F.take (sureOf false F)).length = sureOf false F := by simp; omega
    rw [hFz, List.getElem?_append_right (by omega), hxl, Nat.add_sub_cancel_left]
  have hlast : (F.drop (sureOf false F) ++ z).length - tailOf (F.drop (sureOf false F) ++ z) = 0 → 0 < sureOf false F → (F ++ z)[sureOf false F - 1]? ≠ some 13 := by
    intro h0 hS
    have htl := tail_le (F.drop (sureOf false F) ++ z)
    have hz2 : ∀ t, F.drop (sureOf false F) ≠ 13 :: t := by
      intro t e
      rw [e] at h0 htl
      have h1 := tailOf_cons (b := 13 :: t ++ z) (by simp)
      have h2 : rd (13 :: t ++ z) = (13, 1, 0) := by unfold rd; simp
      rw [h2] at h1
      simp at h1
      have h3 := tail_le (t ++ z)
      simp at h0 htl h3
      omega
    have hlt : sureOf false F - 1 < F.length := by omega
    rw [List.getElem?_append_left hlt]
    intro e
    rcases hsp with ⟨t, h⟩ | h
    · exact hz2 t h
    · have hcr : ¬ (0 < F.length - tailOf F ∧ F[F.length - tailOf F - 1]? = some 13) := by
        intro hcr
        have hS' : sureOf false F = F.length - tailOf F - 1 := by unfold sureOf; simp only [Bool.false_eq_true, if_false]; rw [if_pos hcr]
        obtain ⟨hlt2, he⟩ := List.getElem?_eq_some_iff.1 hcr.2
        refine hz2 (F.drop (F.length - tailOf F - 1 + 1)) ?_
        rw [hS', List.drop_eq_getElem_cons hlt2, he]
      have hS' : sureOf false F = F.length - tailOf F := by unfold sureOf; simp only [Bool.false_eq_true, if_false]; rw [if_neg hcr]
      rw [hS'] at e hS
      exact hcr ⟨hS, e⟩
  have htl := tail_le (F.drop (sureOf false F) ++ z)
  have hga := hg ((F.drop (sureOf false F) ++ z).length - tailOf (F.drop (sureOf false F) ++ z) - 1)
  unfold sureOf at *
  simp only [Bool.false_eq_true, if_false] at *
  generalize hS : (if 0 < F.length - tailOf F ∧ F[F.length - tailOf F - 1]? = some 13 then F.length - tailOf F - 1 else F.length - tailOf F) = S at *
  rw [ht, hl]
  generalize hA : F.drop S ++ z = A at *
  by_cases hn : A.length - tailOf A = 0
  · rw [show S + A.length - tailOf A = S from by omega]
    rw [if_neg (fun h => hlast hn h.1 h.2), if_neg (by omega)]
    omega
  · rw [show S + A.length - tailOf A - 1 = S + (A.length - tailOf A - 1) from by omega, hga]
    by_cases h13 : A[A.length - tailOf A - 1]? = some 13
    · rw [if_pos ⟨by omega, h13⟩, if_pos ⟨by omega, h13⟩]; first | done | omega
    · rw [if_neg (fun h => h13 h.2), if_neg (fun h => h13 h.2)]; first | done | omega

end Go.Proofs.Ytbdkiiaiadbmbaa
