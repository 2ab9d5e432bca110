/- The stream's plain side: what each piece tells. No program is named here. -/
import Derived.Test.YtbdkiiaiadbmbaaInSt
namespace Go.Proofs.Ytbdkiiaiadbmbaa
open Go.RowKit
set_option linter.unusedVariables false
set_option linter.unusedSimpArgs false

theorem sure_join (F y : List Int) (hF : Byt F) (hy : Byt y) (hc : y = [] ∨ F.drop (sureOf false F) = [] ∨ ∃ c t t', F.drop (sureOf false F) = c :: t ∧ y = c :: t') :
    gr (wd (F.take (sureOf false F) ++ y)) = gr (wd (F.take (sureOf false F))) ++ gr (wd y) := by
  rcases hc with rfl | hc
  · simp [wd_nil, gr]
  have hsp := sure_spec F hF
  have hx := hF.take (sureOf false F)
  have hlen : F.drop (sureOf false F) = [] → F.take (sureOf false F) = F := fun h => by
    have := List.take_append_drop (sureOf false F) F
    rw [h, List.append_nil] at this
    exact this
  generalize F.take (sureOf false F) = x at *
  generalize F.drop (sureOf false F) = h at *
  have hcc : (tailOf x = 0 ∨ ∃ c t, y = c :: t ∧ (c < 128 ∨ 192 ≤ c)) := by
    rcases hsp with ⟨t, rfl⟩ | ⟨c, t, rfl, h2⟩ | ⟨rfl, ht, _⟩
    · rcases hc with hc | ⟨c, t1, t2, h1, rfl⟩
      · cases hc
      · injection h1 with h1 _; subst h1; exact .inr ⟨13, t2, rfl, by omega⟩
    · rcases hc with hc | ⟨c', t1, t2, h1, rfl⟩
      · cases hc
      · injection h1 with h1 _; subst h1; exact .inr ⟨c, t2, rfl, by omega⟩
    · left; rw [hlen rfl]; exact ht
  obtain ⟨w1, w2⟩ := wd_split y x hcc
  rw [w1]
  refine gr_split fun u v hu hv => ?_
  rintro ⟨e1, e2⟩
  rcases hsp with ⟨t, rfl⟩ | ⟨c, t, rfl, h2⟩ | ⟨rfl, _, hl⟩
  · rcases hc with hc | ⟨c, t1, t2, h1, rfl⟩
    · cases hc
    · injection h1 with h1 _; subst h1; exact wd_first hy (by omega) v hv e2
  · rcases hc with hc | ⟨c', t1, t2, h1, rfl⟩
    · cases hc
    · injection h1 with h1 _; subst h1; exact wd_first hy (by omega) v hv e2
  · have e := hlen rfl
    rw [← e] at hl
    exact wd_last hx hl u hu e1
/-- what has been told, where it goes on, what is held -/
def xOf (F : List Int) : List Int := F.take (sureOf false F)
def hOf (F : List Int) : List Int := F.drop (sureOf false F)
def plOf (F : List Int) : Pl := pl (gr (wd (xOf F))) pl0
theorem hOf_byt {F : List Int} (h : Byt F) : Byt (hOf F) := h.drop _
theorem all_after (F r : List Int) (hF : Byt F) (hr : Byt (hOf F ++ r)) : readOf (F ++ r) = readOf (xOf F) ++ cl (gr (wd (hOf F ++ r))) (plOf F) := by
  have h := sure_join F (hOf F ++ r) hF hr (by
    cases hh : hOf F with
    | nil => exact .inr (.inl hh)
    | cons c t => exact .inr (.inr ⟨c, t, t ++ r, hh, rfl⟩))
  have hFr : F ++ r = F.take (sureOf false F) ++ (hOf F ++ r) := by unfold hOf; rw [← List.append_assoc, List.take_append_drop]
  unfold readOf
  rw [hFr, h, cl_append]; rfl
theorem feed_next (F z : List Int) (hF : Byt F) (hz : Byt (hOf F ++ z)) :
    readOf (xOf (F ++ z)) = readOf (xOf F) ++ cl (gr (wd ((hOf F ++ z).take (sureOf false (hOf F ++ z))))) (plOf F) ∧
    plOf (F ++ z) = pl (gr (wd ((hOf F ++ z).take (sureOf false (hOf F ++ z))))) (plOf F) ∧ hOf (F ++ z) = (hOf F ++ z).drop (sureOf false (hOf F ++ z)) := by
  have hs := sure_feed F z hF hz
  have hle := sure_le false F
  have hxl : (F.take (sureOf false F)).length = sureOf false F := by simp; omega
  have hFz : F ++ z = F.take (sureOf false F) ++ (hOf F ++ z) := by unfold hOf; rw [← List.append_assoc, List.take_append_drop]
  have hx : xOf (F ++ z) = F.take (sureOf false F) ++ (hOf F ++ z).take (sureOf false (hOf F ++ z)) := by
    show (F ++ z).take (sureOf false (F ++ z)) = _
    rw [hs]
    conv => lhs; rw [hFz]
    rw [List.take_append, hxl, List.take_of_length_le (by omega)]
    congr 2
    show sureOf false F + sureOf false (hOf F ++ z) - sureOf false F = _
    omega
  have h := sure_join F ((hOf F ++ z).take (sureOf false (hOf F ++ z))) hF (hz.take _) (by
    cases hh : hOf F with
    | nil => exact .inr (.inl hh)
    | cons c t =>
      rcases Nat.eq_zero_or_pos (sureOf false (c :: t ++ z)) with h0 | h0
      · left; rw [h0]; rfl
      · obtain ⟨n, hn⟩ : ∃ n, sureOf false (c :: t ++ z) = n + 1 := ⟨sureOf false (c :: t ++ z) - 1, by omega⟩
        right; right
        exact ⟨c, t, (t ++ z).take n, hh, by rw [hn]; rfl⟩)
  refine ⟨?_, ?_, ?_⟩
  · unfold readOf
    rw [hx, h, cl_append]; rfl
  · unfold plOf
    rw [hx, h, pl_append]; rfl
  · show (F ++ z).drop (sureOf false (F ++ z)) = _
    rw [hs]
    conv => lhs; rw [hFz]
    rw [List.drop_append, hxl, List.drop_eq_nil_of_le (by omega), List.nil_append]
    congr 1
    show sureOf false F + sureOf false (hOf F ++ z) - sureOf false F = _
    omega
theorem x_nil : xOf [] = [] ∧ hOf [] = [] := ⟨by simp [xOf], by simp [hOf]⟩
theorem hOf_length (F : List Int) : (hOf F).length ≤ F.length := by simp [hOf]
theorem xOf_length (F : List Int) : (xOf F).length ≤ F.length := by simp [xOf]; omega
theorem pl_rng : ∀ (G : List (Int × Nat)) (p : Pl), 0 ≤ p.b → 0 ≤ p.l → 0 ≤ p.c → 0 ≤ (pl G p).b ∧ 0 ≤ (pl G p).l ∧ 0 ≤ (pl G p).c ∧ (pl G p).b ≤ p.b + sumw G ∧ (pl G p).l ≤ p.l + G.length ∧ (pl G p).c ≤ p.c + G.length + 1
  | [], p, h1, h2, h3 => by simp [pl, sumw]; omega
  | x :: G, p, h1, h2, h3 => by
    have hm : 0 ≤ (mv p x.1 x.2).b ∧ 0 ≤ (mv p x.1 x.2).l ∧ 0 ≤ (mv p x.1 x.2).c ∧ (mv p x.1 x.2).b = p.b + x.2 ∧ (mv p x.1 x.2).l ≤ p.l + 1 ∧ ((mv p x.1 x.2).c = 1 ∨ (mv p x.1 x.2).c = p.c + 1) := by
      unfold mv
      split
      · exact ⟨by show 0 ≤ p.b + _; omega, by show 0 ≤ p.l + 1; omega, by show (0 : Int) ≤ 1; omega, rfl, by show p.l + 1 ≤ _; omega, .inl rfl⟩
      · exact ⟨by show 0 ≤ p.b + _; omega, h2, by show 0 ≤ p.c + 1; omega, rfl, by show p.l ≤ _; omega, .inr rfl⟩
    obtain ⟨a1, a2, a3, a4, a5, a6⟩ := hm
    obtain ⟨i1, i2, i3, i4, i5, i6⟩ := pl_rng G (mv p x.1 x.2) a1 a2 a3
    simp only [pl, sumw, List.length_cons]
    refine ⟨i1, i2, i3, by omega, by omega, ?_⟩
    rcases a6 with h | h <;> omega
theorem plOf_fits (F : List Int) (h : F.length ≤ 1099511627776) : Fits (plOf F) 1099511627776 := by
  have h1 := xOf_length F
  have h2 := gr_wd_length (xOf F)
  have h3 : sumw (gr (wd (xOf F))) = (xOf F).length := by rw [gr_sum]; exact (wdAt_sum _ _ 0 (Nat.le_refl _) (Nat.zero_le _)).1
  obtain ⟨i1, i2, i3, i4, i5, i6⟩ := pl_rng (gr (wd (xOf F))) pl0 (by decide) (by decide) (by decide)
  have e1 : pl0.b = 0 := rfl
  have e2 : pl0.l = 1 := rfl
  have e3 : pl0.c = 1 := rfl
  unfold Fits plOf
  omega
theorem cl_head {G : List (Int × Nat)} {p : Pl} {c : Cl} (h : (cl G p)[0]? = some c) : c.p = p := by
  cases G with
  | nil => simp [cl] at h
  | cons x G => simp [cl] at h; rw [← h]

end Go.Proofs.Ytbdkiiaiadbmbaa
