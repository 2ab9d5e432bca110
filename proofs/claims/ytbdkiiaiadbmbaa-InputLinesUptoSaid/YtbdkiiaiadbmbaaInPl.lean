/- The places of cells, and a text's text: plain laws. No program is named here. -/
import Derived.Test.YtbdkiiaiadbmbaaInP
import Derived.Test.YtbdkiiaiadbmbaaMendP
namespace Go.Proofs.Ytbdkiiaiadbmbaa
open Go.RowKit
set_option linter.unusedVariables false
set_option linter.unusedSimpArgs false

def sumw : List (Int × Nat) → Nat
  | [] => 0
  | x :: t => x.2 + sumw t
theorem gr_sum : ∀ (l : List (Int × Nat)), sumw (gr l) = sumw l
  | [] => rfl
  | [x] => rfl
  | x :: y :: t => by
    simp only [gr]
    split
    · simp only [sumw]; rw [gr_sum t]; omega
    · have := gr_sum (y :: t)
      simp only [sumw] at this ⊢; omega
theorem gr_pos : ∀ (l : List (Int × Nat)), (∀ x ∈ l, 1 ≤ x.2) → ∀ x ∈ gr l, 1 ≤ x.2
  | [], _, x, hx => by simp [gr] at hx
  | [y], h, x, hx => by
    simp [gr] at hx; subst hx; exact h y (by simp)
  | y :: z :: t, h, x, hx => by
    simp only [gr] at hx
    split at hx
    · rcases List.mem_cons.1 hx with rfl | hx
      · have := h y (by simp); simp only; omega
      · exact gr_pos t (fun u hu => h u (by simp [hu])) x hx
    · rcases List.mem_cons.1 hx with rfl | hx
      · exact h y (by simp)
      · exact gr_pos (z :: t) (fun u hu => h u (List.mem_cons_of_mem _ hu)) x hx
theorem gr_plain : ∀ (l : List (Int × Nat)), ∀ x ∈ gr l, plainOf x.1 = x.1
  | [], x, hx => by simp [gr] at hx
  | [y], x, hx => by simp [gr] at hx; subst hx; exact plain_plain _
  | y :: z :: t, x, hx => by
    simp only [gr] at hx
    split at hx
    · rcases List.mem_cons.1 hx with rfl | hx
      · show plainOf 10 = 10
        decide
      · exact gr_plain t x hx
    · rcases List.mem_cons.1 hx with rfl | hx
      · exact plain_plain _
      · exact gr_plain (z :: t) x hx
theorem wdAt_sum (b : List Int) : ∀ (m p : Nat), b.length - p ≤ m → p ≤ b.length → sumw (wdAt b p) = b.length - p ∧ ∀ x ∈ wdAt b p, 1 ≤ x.2
  | 0, p, hm, hp => by rw [wdAt_end _ _ (by omega)]; simp [sumw]; omega
  | m + 1, p, hm, hp => by
    by_cases h : p < b.length
    · obtain ⟨g1, g2⟩ := rd_at h
      obtain ⟨i1, i2⟩ := wdAt_sum b m (p + (rd (b.drop p)).2.1) (by omega) g2
      rw [wdAt_cons _ _ h]
      refine ⟨by simp only [sumw]; omega, fun x hx => ?_⟩
      rcases List.mem_cons.1 hx with rfl | hx
      · exact g1
      · exact i2 x hx
    · rw [wdAt_end _ _ (by omega)]; simp [sumw]; omega
/-- the cell at k, and the one ahead of it -/
theorem cl_at : ∀ (G : List (Int × Nat)) (p : Pl) (k : Nat) (c : Cl), (cl G p)[k]? = some c → (∀ x ∈ G, 1 ≤ x.2 ∧ plainOf x.1 = x.1) →
    plainOf c.r = c.r ∧ p.b + k ≤ c.p.b ∧ c.p.b < p.b + sumw G ∧ (k = 0 → c.p = p) ∧ (∀ j, k = j + 1 → ∃ d n, (cl G p)[j]? = some d ∧ 1 ≤ n ∧ c.p = mv d.p d.r n)
  | [], p, k, c, h, _ => by simp [cl] at h
  | x :: G, p, 0, c, h, hG => by
    simp [cl] at h
    subst h
    have := hG x (by simp)
    refine ⟨this.2, by simp, by simp only [sumw]; omega, fun _ => rfl, fun j hj => by omega⟩
  | x :: G, p, k + 1, c, h, hG => by
    simp only [cl, List.getElem?_cons_succ] at h
    have hx := hG x (by simp)
    obtain ⟨a1, a2, a3, a4, a5⟩ := cl_at G (mv p x.1 x.2) k c h (fun y hy => hG y (by simp [hy]))
    have hb : (mv p x.1 x.2).b = p.b + x.2 := by unfold mv; split <;> rfl
    rw [hb] at a2 a3
    refine ⟨a1, by omega, by simp only [sumw]; omega, fun e => by omega, fun j hj => ?_⟩
    obtain rfl : k = j := by omega
    cases k with
    | zero => exact ⟨⟨x.1, p⟩, x.2, by simp [cl], by omega, a4 rfl⟩
    | succ k =>
      obtain ⟨d, n, d1, d2, d3⟩ := a5 k rfl
      exact ⟨d, n, by simpa [cl] using d1, d2, d3⟩
def prv (xs : List Int) : Nat → Pl × Bool
  | 0 => (⟨-1, 1, 0⟩, false)
  | k + 1 => match (readOf xs)[k]? with
    | some d => (d.p, decide (d.r = 10))
    | none => (⟨-1, 1, 0⟩, false)
theorem prv_succ {xs : List Int} {k : Nat} {c : Cl} (h : (readOf xs)[k]? = some c) : prv xs (k + 1) = (c.p, decide (c.r = 10)) := by simp [prv, h]
theorem prv_law {xs : List Int} : ∀ {k : Nat} {c : Cl}, (readOf xs)[k]? = some c →
    plainOf c.r = c.r ∧ (prv xs k).1.b < c.p.b ∧ c.p.b < xs.length ∧ ((prv xs k).2 = true → c.p.l = (prv xs k).1.l + 1 ∧ c.p.c = 1) ∧ ((prv xs k).2 = false → c.p.l = (prv xs k).1.l ∧ c.p.c = (prv xs k).1.c + 1) ∧
    0 ≤ c.p.l ∧ c.p.l ≤ k + 1 ∧ 0 ≤ c.p.c ∧ c.p.c ≤ k + 1 := by
  have hG : ∀ x ∈ gr (wd xs), 1 ≤ x.2 ∧ plainOf x.1 = x.1 := fun x hx => ⟨gr_pos _ (wdAt_sum xs _ 0 (Nat.le_refl _) (Nat.zero_le _)).2 x hx, gr_plain _ x hx⟩
  have hs : sumw (gr (wd xs)) = xs.length := by rw [gr_sum]; exact (wdAt_sum xs _ 0 (Nat.le_refl _) (Nat.zero_le _)).1
  intro k
  induction k with
  | zero =>
    intro c h
    obtain ⟨a1, a2, a3, a4, a5⟩ := cl_at _ _ _ _ h hG
    rw [hs] at a3
    have := a4 rfl
    rw [this] at a3 ⊢
    simp [prv, pl0] at a3 ⊢
    exact ⟨a1, a3⟩
  | succ k ih =>
    intro c h
    obtain ⟨a1, a2, a3, a4, a5⟩ := cl_at _ _ _ _ h hG
    rw [hs] at a3
    obtain ⟨d, n, d1, d2, d3⟩ := a5 k rfl
    obtain ⟨_, _, _, _, _, i1, i2, i3, i4⟩ := ih d1
    rw [prv_succ d1]
    rw [show pl0.b = 0 from rfl] at a3
    rw [d3] at a3 ⊢
    unfold mv at a3 ⊢
    by_cases h10 : d.r = 10
    · rw [if_pos h10] at a3 ⊢
      rw [h10]
      exact ⟨a1, by show d.p.b < d.p.b + n; omega, by show d.p.b + n < xs.length; have : d.p.b + (n : Int) < 0 + xs.length := a3; omega, fun _ => ⟨rfl, rfl⟩, fun h => by simp at h, by show 0 ≤ d.p.l + 1; omega, by show d.p.l + 1 ≤ _; omega, by show (0 : Int) ≤ 1; omega, by show (1 : Int) ≤ _; omega⟩
    · rw [if_neg h10] at a3 ⊢
      exact ⟨a1, by show d.p.b < d.p.b + n; omega, by show d.p.b + n < xs.length; have : d.p.b + (n : Int) < 0 + xs.length := a3; omega, fun h => by simp [h10] at h, fun _ => ⟨rfl, rfl⟩, by show 0 ≤ d.p.l; omega, by show d.p.l ≤ _; omega, by show 0 ≤ d.p.c + 1; omega, by show d.p.c + 1 ≤ _; omega⟩

/-- a text's text -/
theorem gr_none13 : ∀ (l : List (Int × Nat)), (∀ x ∈ l, x.1 ≠ 13) → (gr l).map Prod.fst = l.map fun x => plainOf x.1
  | [], _ => rfl
  | x :: t, h => by
    rw [show x = (x.1, x.2) from rfl, gr_not13 (h x (by simp))]
    simp only [List.map_cons]
    rw [gr_none13 t (fun y hy => h y (by simp [hy]))]
theorem wd_runes (b : List Int) : (wd b).map Prod.fst = runesOf b := by simp [wd, wdAt, runesOf, pcs, pcRune, List.map_map, Function.comp_def]
theorem text_plain (xs : List Int) : ∀ r ∈ textOf xs, plainOf r = r := by
  intro r hr
  obtain ⟨x, hx, rfl⟩ := List.mem_map.1 hr
  exact gr_plain _ x hx
theorem text_runes (xs : List Int) : runesOf (encs (textOf xs)) = textOf xs := by
  rw [runes_enc]
  conv => rhs; rw [← List.map_id (textOf xs)]
  refine List.map_congr_left fun r hr => ?_
  rw [← text_plain xs r hr]
  exact fixR_id (plain_good r)
theorem map_plain (xs : List Int) : (textOf xs).map plainOf = textOf xs := by
  conv => rhs; rw [← List.map_id (textOf xs)]
  exact List.map_congr_left fun r hr => text_plain xs r hr
theorem text_text (xs : List Int) : textOf (encs (textOf xs)) = textOf xs := by
  have h13 : ∀ x ∈ wd (encs (textOf xs)), x.1 ≠ 13 := by
    intro x hx
    have : x.1 ∈ runesOf (encs (textOf xs)) := by rw [← wd_runes]; exact List.mem_map_of_mem hx
    rw [text_runes] at this
    rw [← text_plain xs _ this]
    exact plain_not13 _
  have h1 := gr_none13 _ h13
  unfold textOf at *
  rw [h1]
  have h2 := wd_runes (encs ((gr (wd xs)).map Prod.fst))
  have h3 := text_runes xs
  have h4 := map_plain xs
  unfold textOf at h3 h4
  rw [h3] at h2
  rw [← h4]
  conv => rhs; rw [← h2]
  rw [h4]
  simp [List.map_map, Function.comp_def]

end Go.Proofs.Ytbdkiiaiadbmbaa
