/- The plain laws of scanning: runes against bytes, where what is looked for is ASCII. No program is named here. -/
import Derived.Test.YtoccmpaonicnnaaScanP
import Derived.Test.YtoccmpaonicnnaaCutP
namespace Go.Proofs.Ytoccmpaonicnnaa
set_option linter.unusedVariables false
set_option linter.unusedSimpArgs false

theorem rd_asc {b : List Int} (hb : Byts b) (h0 : 0 < b.length) (h : (rd b).1 < 128) : b[0]? = some (rd b).1 ∧ (rd b).2.1 = 1 := by
  by_cases hw : (rd b).2.2 = 0
  · obtain ⟨hg, he⟩ := rd_whole hb h0 hw
    have hs := rd_size b h0
    have e : encC (rd b).1 = [(rd b).1] := by unfold encC; rw [if_pos h]
    rw [e] at he
    have hl := congrArg List.length he
    simp at hl
    have hn : (rd b).2.1 = 1 := by omega
    rw [hn] at he
    refine ⟨?_, hn⟩
    have := congrArg (fun l => l[0]?) he
    simp at this
    exact this.symm
  · rw [rd_wrong h0 (by simpa [goodA] using hw)] at h; omega

theorem rdGo_asc {c : Int} (hc : c < 128) (b z : List Int) (m : Nat) : ∀ (f i : Nat) (r lo hi : Int), 128 ≤ lo → (rdGo b m f i r lo hi).2.2 = 2 → i ≤ b.length → rdGo (b ++ c :: z) m f i r lo hi = (65533, b.length, 1) ∧ rdGo b m f i r lo hi = (65533, b.length, 2)
  | 0, i, r, lo, hi, hlo, h, hi' => by rw [rdGo_end] at h; simp at h
  | f + 1, i, r, lo, hi, hlo, h, hi' => by
    rcases hx : b[i]? with _ | x
    · have hl : b.length ≤ i := List.getElem?_eq_none_iff.1 hx
      obtain rfl : i = b.length := by omega
      rw [rdGo_none hx]
      exact ⟨rdGo_bad (x := c) (by simp) (.inl (by omega)) _ _ _, rfl⟩
    · have hlt := (List.getElem?_eq_some_iff.1 hx).1
      by_cases hb : x < lo ∨ hi < x
      · rw [rdGo_bad hx hb] at h; simp at h
      · rw [rdGo_step hx (by omega) (by omega)] at h ⊢
        rw [rdGo_step (b := b ++ c :: z) (x := x) (by rw [List.getElem?_append_left hlt]; exact hx) (by omega) (by omega)]
        exact rdGo_asc hc b z m f (i + 1) _ 128 191 (by omega) h (by omega)
theorem bndL_ge {a : Int} (h : 194 ≤ a) (h1 : a ≤ 244) : 128 ≤ bndL a := by
  unfold bndL; rw [if_neg (by omega)]; split
  · omega
  · split
    · omega
    · first | (rw [if_pos h1]; omega) | omega
theorem rd_begun {b : List Int} {c : Int} (hb : Byts b) (h0 : 0 < b.length) (hc : c < 128) (z : List Int) (h : (rd b).2.2 = 2) : rd (b ++ c :: z) = (65533, b.length, 1) ∧ rd b = (65533, b.length, 2) := by
  obtain ⟨a, t, rfl⟩ : ∃ a t, b = a :: t := by cases b with | nil => simp at h0 | cons a t => exact ⟨a, t, rfl⟩
  obtain ⟨a0, a1⟩ := hb a (by simp)
  by_cases h8 : a < 128
  · rw [rd_one t h8] at h; simp at h
  · rcases bndM_of (a := a) (by omega) with ⟨hm, hr⟩ | ⟨hm, hr⟩ | ⟨hm, hr⟩ | ⟨hm, hr⟩
    · rw [rd_none t (by omega) (by omega)] at h; simp at h
    · rw [rd_m (m := 1) t (by omega) hm] at h ⊢
      rw [List.cons_append, rd_m (m := 1) _ (by omega) hm]
      exact rdGo_asc hc (a :: t) z _ _ _ _ _ _ (bndL_ge (by omega) (by omega)) h (by simp)
    · rw [rd_m (m := 2) t (by omega) hm] at h ⊢
      rw [List.cons_append, rd_m (m := 2) _ (by omega) hm]
      exact rdGo_asc hc (a :: t) z _ _ _ _ _ _ (bndL_ge (by omega) (by omega)) h (by simp)
    · rw [rd_m (m := 3) t (by omega) hm] at h ⊢
      rw [List.cons_append, rd_m (m := 3) _ (by omega) hm]
      exact rdGo_asc hc (a :: t) z _ _ _ _ _ _ (bndL_ge (by omega) (by omega)) h (by simp)

/-- a byte of ASCII parts the runes, wherever it stands -/
theorem runes_ascii {c : Int} (hc : c < 128) (z : List Int) {b : List Int} : Byts b → runesOf (b ++ c :: z) = runesOf b ++ c :: runesOf z := by
  refine pieces_ind (C := fun b => Byts b → runesOf (b ++ c :: z) = runesOf b ++ c :: runesOf z) (fun _ => ?_) (fun b h0 ih hb => ?_) b
  · have := rd_one z hc
    rw [List.nil_append, runes_cons (by simp), this]
    simp [runes_nil]
  · by_cases h2 : (rd b).2.2 = 2
    · obtain ⟨e1, e2⟩ := rd_begun hb h0 hc z h2
      rw [runes_cons (b := b ++ c :: z) (by simp; omega), e1, runes_cons h0, e2]
      simp only [List.drop_left, List.drop_length, runes_nil, List.cons_append, List.nil_append]
      have := rd_one z hc
      rw [runes_cons (b := c :: z) (by simp), this]
      simp
    · have hm := rd_more h0 (c :: z) h2
      have hs := rd_size b h0
      rw [runes_cons (b := b ++ c :: z) (by simp; omega), hm, runes_cons h0, List.drop_append_of_le_length hs.2.1, ih (hb.drop _)]
      rfl

/-- ASCII alone -/
def Asc (ws : List Int) : Prop := ∀ c ∈ ws, 0 ≤ c ∧ c < 128
theorem Asc.byts {ws : List Int} (h : Asc ws) : Byts ws := fun x hx => by have := h x hx; omega
theorem runes_asc {ws : List Int} (hw : Asc ws) {b : List Int} (hb : Byts b) : runesOf (b ++ ws) = runesOf b ++ ws := by
  have self : ∀ ws : List Int, Asc ws → runesOf ws = ws := by
    intro ws
    induction ws with
    | nil => intro _; rfl
    | cons c ws ih =>
      intro h
      have := runes_ascii (c := c) (h c (by simp)).2 ws (b := []) (fun x hx => by simp at hx)
      simp only [List.nil_append, runes_nil] at this
      rw [this, ih (fun x hx => h x (by simp [hx]))]
  cases ws with
  | nil => simp
  | cons c ws =>
    rw [runes_ascii (hw c (by simp)).2 ws hb, self ws (fun x hx => hw x (by simp [hx]))]

/-- where a rune stands -/
theorem prs_split {b : List Int} : ∀ {q rest : List (Nat × Int)} {y : Nat × Int}, prs b = q ++ y :: rest → runesOf (b.drop y.1) = y.2 :: rest.map Prod.snd ∧ y.1 < b.length ∧ (rd (b.drop y.1)).1 = y.2 := by
  refine pieces_ind (C := fun b => ∀ {q rest : List (Nat × Int)} {y : Nat × Int}, prs b = q ++ y :: rest → runesOf (b.drop y.1) = y.2 :: rest.map Prod.snd ∧ y.1 < b.length ∧ (rd (b.drop y.1)).1 = y.2) (fun {q rest y} h => ?_) (fun b h0 ih {q rest y} h => ?_) b
  · rw [prs_nil] at h
    exact absurd h.symm (by simp)
  · rw [prs_cons h0] at h
    have hs := rd_size b h0
    cases q with
    | nil =>
      simp only [List.nil_append, List.cons.injEq] at h
      obtain ⟨rfl, h2⟩ := h
      refine ⟨?_, h0, rfl⟩
      simp only [List.drop_zero]
      rw [runes_cons h0, ← h2, List.map_map]
      congr 1
      rw [← prRunes_prs, prRunes]
      rfl
    | cons x q =>
      simp only [List.cons_append, List.cons.injEq] at h
      obtain ⟨_, h2⟩ := h
      obtain ⟨q', l', e1, e2, e3⟩ := List.map_eq_append_iff.1 h2
      obtain ⟨y', rest', rfl, e4, e5⟩ := List.map_eq_cons_iff.1 e3
      obtain ⟨i1, i2, i3⟩ := ih e1
      rw [← e4, ← e5]
      simp only [List.length_drop] at i2
      rw [List.drop_drop, Nat.add_comm] at i1 i3
      refine ⟨?_, by simp; omega, i3⟩
      rw [i1, List.map_map]
      rfl
theorem prs_place {b : List Int} {q rest : List (Nat × Int)} {y : Nat × Int} (h : prs b = q ++ y :: rest) : runesOf (b.take y.1) = q.map Prod.snd := by
  obtain ⟨h1, h2, h3⟩ := prs_split h
  have hp := runes_part (xs := b) y.1 (.inr (.inr ⟨y, by rw [h]; simp, rfl⟩))
  rw [h1] at hp
  have e : runesOf b = q.map Prod.snd ++ (y.2 :: rest.map Prod.snd) := by rw [← prRunes_prs, h, prRunes]; simp
  rw [e] at hp
  exact List.append_cancel_right hp
theorem prs_byte {b : List Int} (hb : Byts b) {q rest : List (Nat × Int)} {y : Nat × Int} (h : prs b = q ++ y :: rest) (hy : y.2 < 128) : b[y.1]? = some y.2 := by
  obtain ⟨h1, h2, h3⟩ := prs_split h
  have := rd_asc (hb.drop y.1) (by simp; omega) (by rw [h3]; exact hy)
  rw [List.getElem?_drop, h3] at this
  simpa using this.1

/-- endings in ASCII: of the runes as of the bytes -/
theorem suffix_runes {b : List Int} (hb : Byts b) : ∀ {ws : List Int}, Asc ws → (ws <:+ runesOf b ↔ ws <:+ b) := by
  intro ws hw
  constructor
  · revert b
    generalize hn : ws.length = n
    induction n generalizing ws with
    | zero => intro b hb _; obtain rfl := List.eq_nil_of_length_eq_zero hn; exact List.nil_suffix
    | succ n ih =>
      intro b hb hsuf
      obtain ⟨ws', c, rfl⟩ : ∃ ws' c, ws = ws' ++ [c] := by
        rcases List.eq_nil_or_concat ws with rfl | ⟨ws', c, rfl⟩
        · simp at hn
        · exact ⟨ws', c, by simp⟩
      obtain ⟨R, hR⟩ := hsuf
      have hc := hw c (by simp)
      have hpr : (prs b).map Prod.snd = (R ++ ws') ++ [c] := by
        have := prRunes_prs b
        unfold prRunes at this
        rw [this, ← hR]; simp
      obtain ⟨q, l2, e1, e2, e3⟩ := List.map_eq_append_iff.1 hpr
      obtain ⟨y, r2, rfl, e4, e5⟩ := List.map_eq_cons_iff.1 e3
      obtain rfl : r2 = [] := by simpa using e5
      obtain ⟨h1, h2, h3⟩ := prs_split e1
      have hpl := prs_place e1
      have hby := prs_byte hb e1 (by rw [e4]; exact hc.2)
      have hd : b.drop y.1 = c :: b.drop (y.1 + 1) := by
        rw [List.drop_eq_getElem_cons h2]
        congr 1
        have := (List.getElem?_eq_some_iff.1 hby).2
        rw [this, e4]
      have ht : b.drop (y.1 + 1) = [] := by
        rw [hd] at h1
        have h4 := rd_one (b.drop (y.1 + 1)) hc.2
        rw [runes_cons (by simp), h4] at h1
        simp only [List.map_nil, List.cons.injEq, List.drop_succ_cons, List.drop_zero] at h1
        have hnil := h1.2
        by_cases hz : 0 < (b.drop (y.1 + 1)).length
        · rw [runes_cons hz] at hnil; simp at hnil
        · exact List.eq_nil_of_length_eq_zero (by omega)
      have hsplit : b = b.take y.1 ++ [c] := by
        conv => lhs; rw [← List.take_append_drop y.1 b]
        rw [hd, ht]
      have ih2 := ih (ws := ws') (fun x hx => hw x (by simp [hx])) (by simpa using hn) (b := b.take y.1) (hb.take _) (by rw [hpl, e2]; exact ⟨R, rfl⟩)
      obtain ⟨p, hp⟩ := ih2
      rw [hsplit, ← hp]
      exact ⟨p, by simp⟩
  · rintro ⟨p, rfl⟩
    rw [runes_asc hw (fun x hx => hb x (by simp [hx]))]
    exact ⟨_, rfl⟩
theorem ends_runes {b : List Int} (hb : Byts b) {ws : List Int} (hw : Asc ws) : endsL ws (runesOf b) = endsL ws b := by
  unfold endsL
  rw [Bool.eq_iff_iff, decide_eq_true_eq, decide_eq_true_eq]
  exact suffix_runes hb hw
theorem runes_is {b : List Int} (hb : Byts b) {ws : List Int} (hw : Asc ws) : runesOf b = ws ↔ b = ws := by
  constructor
  · intro h
    obtain ⟨p, hp⟩ := (suffix_runes hb hw).1 (by rw [h]; exact List.suffix_refl ws)
    have h2 := runes_asc hw (b := p) (fun x hx => hb x (by rw [← hp]; simp [hx]))
    rw [hp, h] at h2
    have hnil : runesOf p = [] := by
      have h3 := congrArg List.length h2
      rw [List.length_append] at h3
      exact List.eq_nil_of_length_eq_zero (by omega)
    have : p = [] := by
      by_cases hz : 0 < p.length
      · rw [runes_cons hz] at hnil; simp at hnil
      · exact List.eq_nil_of_length_eq_zero (by omega)
    rw [this] at hp
    simpa using hp.symm
  · rintro rfl
    have := runes_asc hw (b := []) (fun x hx => by simp at hx)
    simpa [runes_nil] using this
theorem only_iff {ws l : List Int} : (l.length = ws.length ∧ endsL ws l = true) ↔ l = ws := by
  unfold endsL
  rw [decide_eq_true_eq]
  constructor
  · rintro ⟨h1, p, rfl⟩
    have : p = [] := by rw [List.length_append] at h1; exact List.eq_nil_of_length_eq_zero (by omega)
    rw [this]; rfl
  · rintro rfl; exact ⟨rfl, List.suffix_refl _⟩
theorem asc_1 : Asc [62] := by intro c hc; simp at hc; omega
theorem asc_2 : Asc [45, 62] := by intro c hc; simp at hc; omega
theorem asc_3 : Asc [45, 45, 62] := by intro c hc; simp at hc; omega
theorem asc_4 : Asc [45, 45, 33, 62] := by intro c hc; simp at hc; omega
theorem asc_5 : Asc [45, 45, 33] := by intro c hc; simp at hc; omega
theorem asc_6 : Asc [45, 45] := by intro c hc; simp at hc; omega
theorem asc_7 : Asc [45] := by intro c hc; simp at hc; omega
theorem endN_runes {b : List Int} (hb : Byts b) : endN (runesOf b) = endN b := by
  have h1 : ((runesOf b).length = 1 ∧ endsL [62] (runesOf b) = true) ↔ (b.length = 1 ∧ endsL [62] b = true) := by
    rw [show (1 : Nat) = ([62] : List Int).length from rfl, only_iff, only_iff, runes_is hb asc_1]
  have h2 : ((runesOf b).length = 2 ∧ endsL [45, 62] (runesOf b) = true) ↔ (b.length = 2 ∧ endsL [45, 62] b = true) := by
    rw [show (2 : Nat) = ([45, 62] : List Int).length from rfl, only_iff, only_iff, runes_is hb asc_2]
  unfold endN
  simp only [h1, h2, ends_runes hb asc_3, ends_runes hb asc_4]
theorem openN_runes {b : List Int} (hb : Byts b) (k : Int) : openN k (runesOf b) = openN k b := by
  unfold openN
  simp only [ends_runes hb asc_5, ends_runes hb asc_6, ends_runes hb asc_7]
theorem overL_runes {b : List Int} (hb : Byts b) (k : Int) : overL k (runesOf b) = overL k b := by
  unfold overL
  rw [ends_runes hb asc_1, endN_runes hb]

end Go.Proofs.Ytoccmpaonicnnaa
