/- The plain law of scanning at once: what the runes say is what the bytes say. No program is named here. -/
import Derived.Test.YtoccmpaonicnnaaScanQ
import Derived.Test.YtoccmpaonicnnaaScanF
import Derived.Test.YtoccmpaonicnnaaOpen
namespace Go.Proofs.Ytoccmpaonicnnaa
set_option linter.unusedVariables false
set_option linter.unusedSimpArgs false

/-- it is closed first behind e bytes; or never -/
def ClosedAt (k : Int) (xs : List Int) (e : Nat) : Prop := 1 ≤ e ∧ e ≤ xs.length ∧ overL k (xs.take e) = true ∧ ∀ e', 1 ≤ e' → e' < e → overL k (xs.take e') = false
def NeverC (k : Int) (xs : List Int) : Prop := ∀ e', 1 ≤ e' → e' ≤ xs.length → overL k (xs.take e') = false
def tailB (k : Int) (b : List Int) : Nat := if k = 0 then endN b else 1

theorem tail_split {k : Int} {b : List Int} (h : overL k b = true) : ∃ p ws, b = p ++ ws ∧ Asc ws ∧ ws.length = tailB k b := by
  unfold overL at h
  simp only [Bool.and_eq_true, Bool.or_eq_true, decide_eq_true_eq] at h
  obtain ⟨h1, h2⟩ := h
  have suf : ∀ ws : List Int, endsL ws b = true → ∃ p, b = p ++ ws := fun ws hw => by
    unfold endsL at hw; rw [decide_eq_true_eq] at hw
    obtain ⟨p, hp⟩ := hw; exact ⟨p, hp.symm⟩
  unfold tailB
  by_cases hk : k = 0
  · rw [if_pos hk]
    have h3 : endN b ≠ 0 := by
      rcases h2 with h | h
      · exact absurd hk h
      · exact h
    unfold endN at h3 ⊢
    split at h3
    · rename_i c; rw [if_pos c]; obtain ⟨p, hp⟩ := suf _ c.2; exact ⟨p, _, hp, asc_1, rfl⟩
    · rename_i c1
      rw [if_neg c1]
      split at h3
      · rename_i c; rw [if_pos c]; obtain ⟨p, hp⟩ := suf _ c.2; exact ⟨p, _, hp, asc_2, rfl⟩
      · rename_i c2
        rw [if_neg c2]
        split at h3
        · rename_i c; rw [if_pos c]; obtain ⟨p, hp⟩ := suf _ c; exact ⟨p, _, hp, asc_3, rfl⟩
        · rename_i c3
          rw [if_neg c3]
          split at h3
          · rename_i c; rw [if_pos c]; obtain ⟨p, hp⟩ := suf _ c; exact ⟨p, _, hp, asc_4, rfl⟩
          · exact absurd rfl h3
  · rw [if_neg hk]
    obtain ⟨p, hp⟩ := suf _ h1
    exact ⟨p, _, hp, asc_1, rfl⟩
theorem open_split (k : Int) (b : List Int) : ∃ p ws, b = p ++ ws ∧ Asc ws ∧ ws.length = openN k b := by
  have suf : ∀ ws : List Int, endsL ws b = true → ∃ p, b = p ++ ws := fun ws hw => by
    unfold endsL at hw; rw [decide_eq_true_eq] at hw
    obtain ⟨p, hp⟩ := hw; exact ⟨p, hp.symm⟩
  have none : ∃ p ws, b = p ++ ws ∧ Asc ws ∧ ws.length = 0 := ⟨b, [], by simp, fun c hc => by simp at hc, rfl⟩
  unfold openN
  split
  · exact none
  · split
    · rename_i c; obtain ⟨p, hp⟩ := suf _ c; exact ⟨p, _, hp, asc_5, rfl⟩
    · split
      · rename_i c; obtain ⟨p, hp⟩ := suf _ c; exact ⟨p, _, hp, asc_6, rfl⟩
      · split
        · rename_i c; obtain ⟨p, hp⟩ := suf _ c; exact ⟨p, _, hp, asc_7, rfl⟩
        · exact none
theorem say_runes {b : List Int} (hb : Byts b) {k : Int} {t : Nat} (h : ∃ p ws, b = p ++ ws ∧ Asc ws ∧ ws.length = t) : sayR k t (runesOf b) = if k = 1 then [] else mendOf (b.take (b.length - t)) := by
  obtain ⟨p, ws, rfl, hw, rfl⟩ := h
  unfold sayR
  split
  · rfl
  · rw [runes_asc hw (fun x hx => hb x (by simp [hx]))]
    simp [mendOf]

theorem good_of_prs {xs : List Int} (hb : Byts xs) {q rest : List (Nat × Int)} (h : prs xs = q ++ rest) : fixP q = q.map Prod.snd := by
  unfold fixP
  refine List.map_congr_left fun x hx => fixR_id (runes_good hb x.2 ?_)
  rw [← prRunes_prs, h, prRunes]
  exact List.mem_map.2 ⟨x, by simp [hx], rfl⟩
theorem over_at {k : Int} {xs : List Int} (hb : Byts xs) {q rest : List (Nat × Int)} {y : Nat × Int} (h : prs xs = q ++ y :: rest) (ho : overL k (fixP (q ++ [y])) = true) :
    y.2 = 62 ∧ fixP (q ++ [y]) = runesOf (xs.take (y.1 + 1)) ∧ overL k (xs.take (y.1 + 1)) = true ∧ y.1 < xs.length := by
  have hf := good_of_prs hb (q := q ++ [y]) (rest := rest) (by rw [h]; simp)
  have h62 : y.2 = 62 := by
    unfold overL at ho
    simp only [Bool.and_eq_true] at ho
    rw [hf, List.map_append, List.map_cons, List.map_nil, endsL_last, decide_eq_true_eq] at ho
    exact ho.1
  obtain ⟨h1, h2, h3⟩ := prs_split h
  have hpl := prs_place h
  have hby := prs_byte hb h (by rw [h62]; omega)
  have ht : xs.take (y.1 + 1) = xs.take y.1 ++ [62] := by rw [List.take_add_one, hby, h62]; rfl
  have hr : fixP (q ++ [y]) = runesOf (xs.take (y.1 + 1)) := by
    rw [hf, ht, runes_asc asc_1 (hb.take _), hpl, List.map_append, List.map_cons, List.map_nil, h62]
  exact ⟨h62, hr, by rw [← overL_runes (hb.take _), ← hr]; exact ho, h2⟩

theorem notYet_of {k : Int} {xs : List Int} (hb : Byts xs) {q rest : List (Nat × Int)} (h : prs xs = q ++ rest) (hno : ∀ x ∈ q, overL k (xs.take (x.1 + 1)) = false) : NotYet k q := by
  intro q' y hq
  obtain ⟨t, ht⟩ := hq
  cases ho : overL k (fixP (q' ++ [y]))
  · rfl
  · have h2 : prs xs = q' ++ y :: (t ++ rest) := by rw [h, ← ht]; simp
    obtain ⟨_, _, h3, _⟩ := over_at hb h2 ho
    rw [hno y (by rw [← ht]; simp)] at h3
    exact absurd h3 (by simp)

theorem whole_closed {k : Int} {xs : List Int} (hb : Byts xs) {e : Nat} (h : ClosedAt k xs e) :
    wholeR k xs = ((if k = 1 then [] else mendOf (xs.take (e - tailB k (xs.take e)))), e, true) := by
  obtain ⟨h1, h2, h3, h4⟩ := h
  obtain ⟨b', hb'⟩ : ∃ b', xs.take e = b' ++ [62] := by
    have := h3
    unfold overL endsL at this
    simp only [Bool.and_eq_true, decide_eq_true_eq] at this
    obtain ⟨p, hp⟩ := this.1
    exact ⟨p, hp.symm⟩
  have hbl : b'.length + 1 = e := by have := congrArg List.length hb'; simp at this; omega
  have hxs : xs = b' ++ 62 :: xs.drop e := by
    conv => lhs; rw [← List.take_append_drop e xs]
    rw [hb']; simp
  have hbb : Byts b' := fun x hx => hb x (by rw [hxs]; simp [hx])
  have hrun : (prs xs).map Prod.snd = runesOf b' ++ 62 :: runesOf (xs.drop e) := by
    have := prRunes_prs xs
    unfold prRunes at this
    rw [this]
    conv => lhs; rw [hxs]
    exact runes_ascii (by omega) _ hbb
  obtain ⟨q, l2, e1, e2, e3⟩ := List.map_eq_append_iff.1 hrun
  obtain ⟨y, rest, rfl, e4, e5⟩ := List.map_eq_cons_iff.1 e3
  have hpl := prs_place e1
  have hby := prs_byte hb e1 (by rw [e4]; omega)
  have hlen : (runesOf (xs.take y.1)).length = (runesOf b').length := by rw [hpl, e2]
  have hy : y.1 = b'.length := by
    have hylt := (prs_split e1).2.1
    rcases Nat.lt_trichotomy y.1 b'.length with hlt | heq | hgt
    · exfalso
      have : b' = xs.take y.1 ++ 62 :: b'.drop (y.1 + 1) := by
        have hg : b'[y.1]? = some 62 := by
          have h6 := hby
          rw [hxs, List.getElem?_append_left hlt, e4] at h6
          exact h6
        have ht : xs.take y.1 = b'.take y.1 := by
          conv => lhs; rw [hxs]
          rw [List.take_append_of_le_length (by omega)]
        rw [ht]
        conv => lhs; rw [← List.take_append_drop y.1 b']
        rw [List.drop_eq_getElem_cons hlt]
        congr 2
        exact (List.getElem?_eq_some_iff.1 hg).2
      have h7 := runes_ascii (c := 62) (by omega) (b'.drop (y.1 + 1)) (hb.take y.1)
      rw [← this] at h7
      rw [h7] at hlen
      simp at hlen
    · exact heq
    · exfalso
      have ht : xs.take y.1 = b' ++ 62 :: (xs.drop e).take (y.1 - e) := by
        conv => lhs; rw [hxs]
        rw [List.take_append, List.take_of_length_le (by omega)]
        congr 1
        rw [show y.1 - b'.length = (y.1 - e) + 1 by omega, List.take_succ_cons]
      have h7 := runes_ascii (c := 62) (by omega) ((xs.drop e).take (y.1 - e)) hbb
      rw [← ht] at h7
      rw [h7] at hlen
      simp at hlen
  have hye : y.1 + 1 = e := by omega
  have hf := good_of_prs hb (q := q ++ [y]) (rest := rest) (by rw [e1]; simp)
  have hl : fixP (q ++ [y]) = runesOf (xs.take e) := by
    rw [hf, hb', runes_asc asc_1 hbb, List.map_append, e2, List.map_cons, List.map_nil, e4]
  have hsort := prs_sorted xs
  rw [e1] at hsort
  have hny : NotYet k q := notYet_of hb e1 (fun x hx => by
    have := (List.pairwise_append.1 hsort).2.2 x hx y (by simp)
    exact h4 (x.1 + 1) (by omega) (by omega))
  have hov : overL k (fixP (q ++ [y])) = true := by rw [hl, overL_runes (hb.take _)]; exact h3
  have hsg := scanGo_some (rest := rest) hny hov
  rw [← e1, hl, ] at hsg
  unfold wholeR
  rw [hsg]
  simp only [endN_runes (hb.take e)]
  rw [hye]
  have hsay := say_runes (hb.take e) (k := k) (t := tailB k (xs.take e)) (tail_split h3)
  unfold tailB at hsay ⊢
  rw [hsay]
  have hte : (xs.take e).length = e := by simp; omega
  rw [hte, List.take_take, Nat.min_eq_left (by omega)]

theorem whole_never {k : Int} {xs : List Int} (hb : Byts xs) (h : NeverC k xs) :
    wholeR k xs = ((if k = 1 then [] else mendOf (xs.take (xs.length - openN k xs))), xs.length, false) := by
  have hny : NotYet k (prs xs) := notYet_of hb (rest := []) (by simp) (fun x hx => by
    have := prs_lt xs x hx
    exact h (x.1 + 1) (by omega) (by omega))
  have hf := good_of_prs hb (q := prs xs) (rest := []) (by simp)
  have hr : fixP (prs xs) = runesOf xs := by rw [hf, ← prRunes_prs]; rfl
  unfold wholeR
  rw [scanGo_none hny]
  simp only [hr, openN_runes hb]
  rw [say_runes hb (open_split k xs)]

/-- what begins at a place of the reference's search -/
def matchAt (k : Int) (xs : List Int) (i : Nat) : Nat :=
  if k ≠ 0 then (if xs[i]? = some 62 then 1 else 0) else if preB [45, 45, 62] (xs.drop i) = true then 3 else if preB [45, 45, 33, 62] (xs.drop i) = true then 4 else 0
/-- what the reference's end says -/
def EndSpec (k : Int) (xs : List Int) (to n : Nat) (cl : Bool) : Prop :=
  (k = 0 ∧ preB [62] xs = true ∧ to = 0 ∧ n = 1 ∧ cl = true) ∨
  (k = 0 ∧ preB [62] xs = false ∧ preB [45, 62] xs = true ∧ to = 0 ∧ n = 2 ∧ cl = true) ∨
  ((k = 0 → preB [62] xs = false ∧ preB [45, 62] xs = false) ∧ ((to < xs.length ∧ matchAt k xs to ≠ 0 ∧ (∀ j, j < to → matchAt k xs j = 0) ∧ n = to + matchAt k xs to ∧ cl = true) ∨
    ((∀ j, j < xs.length → matchAt k xs j = 0) ∧ to = xs.length ∧ n = xs.length ∧ cl = false)))

theorem pre_iff {ws xs : List Int} : preB ws xs = true ↔ ∃ r, xs = ws ++ r := by
  unfold preB; rw [decide_eq_true_eq]
  exact ⟨fun ⟨r, h⟩ => ⟨r, h.symm⟩, fun ⟨r, h⟩ => ⟨r, h.symm⟩⟩
theorem pre_take {ws xs : List Int} {j : Nat} (h : preB ws (xs.drop j) = true) (hj : j ≤ xs.length) : j + ws.length ≤ xs.length ∧ xs.take (j + ws.length) = xs.take j ++ ws := by
  obtain ⟨r, hr⟩ := pre_iff.1 h
  have hl := congrArg List.length hr
  simp at hl
  refine ⟨by omega, ?_⟩
  have : xs = xs.take j ++ (ws ++ r) := by rw [← hr, List.take_append_drop]
  conv => lhs; rw [this]
  have hj' : (xs.take j).length = j := by rw [List.length_take]; omega
  have h2 : (xs.take j ++ (ws ++ r)).take ((xs.take j).length + ws.length) = xs.take j ++ (ws ++ r).take ws.length := List.take_length_add_append ..
  rw [hj'] at h2
  rw [h2, List.take_left]
theorem suf_take {ws xs : List Int} {e : Nat} (h : endsL ws (xs.take e) = true) (he : e ≤ xs.length) : ws.length ≤ e ∧ preB ws (xs.drop (e - ws.length)) = true := by
  have hl := endsL_len h
  simp at hl
  unfold endsL at h; rw [decide_eq_true_eq] at h
  obtain ⟨p, hp⟩ := h
  have hpl := congrArg List.length hp
  simp at hpl
  refine ⟨by omega, pre_iff.2 ⟨xs.drop e, ?_⟩⟩
  have : xs = p ++ (ws ++ xs.drop e) := by
    conv => lhs; rw [← List.take_append_drop e xs]
    rw [← hp]; simp
  conv => lhs; rw [this]
  rw [show e - ws.length = p.length by omega, List.drop_left]
theorem over_zero {xs : List Int} {e : Nat} (h : overL 0 (xs.take e) = true) (he : e ≤ xs.length) :
    (e = 1 ∧ preB [62] xs = true) ∨ (e = 2 ∧ preB [45, 62] xs = true) ∨ (3 ≤ e ∧ preB [45, 45, 62] (xs.drop (e - 3)) = true) ∨ (4 ≤ e ∧ preB [45, 45, 33, 62] (xs.drop (e - 4)) = true) := by
  unfold overL at h
  simp only [Bool.and_eq_true, Bool.or_eq_true, decide_eq_true_eq, ne_eq, not_true_eq_false, false_or] at h
  have hN := h.2
  have hl : (xs.take e).length = e := by simp; omega
  unfold endN at hN
  rw [hl] at hN
  split at hN
  · rename_i c
    have := suf_take c.2 he
    rw [c.1] at this
    exact .inl ⟨c.1, by simpa using this.2⟩
  · split at hN
    · rename_i c
      have := suf_take c.2 he
      rw [c.1] at this
      exact .inr (.inl ⟨c.1, by simpa using this.2⟩)
    · split at hN
      · rename_i c; exact .inr (.inr (.inl (suf_take c he)))
      · split at hN
        · rename_i c; exact .inr (.inr (.inr (suf_take c he)))
        · exact absurd rfl hN
theorem over_some {k : Int} (hk : k ≠ 0) {xs : List Int} {e : Nat} (h : overL k (xs.take e) = true) (he : e ≤ xs.length) : 1 ≤ e ∧ xs[e - 1]? = some 62 := by
  unfold overL at h
  simp only [Bool.and_eq_true] at h
  obtain ⟨h1, h2⟩ := suf_take h.1 he
  obtain ⟨r, hr⟩ := pre_iff.1 h2
  refine ⟨by simpa using h1, ?_⟩
  have := congrArg (fun l => l[0]?) hr
  simp [List.getElem?_drop] at this
  exact this
theorem match_of_over {k : Int} {xs : List Int} {e : Nat} (h : overL k (xs.take e) = true) (h1 : 1 ≤ e) (he : e ≤ xs.length) (hno : k = 0 → preB [62] xs = false ∧ preB [45, 62] xs = false) :
    ∃ j, j < xs.length ∧ matchAt k xs j ≠ 0 ∧ j + matchAt k xs j ≤ e := by
  unfold matchAt
  by_cases hk : k = 0
  · subst hk
    obtain ⟨n1, n2⟩ := hno rfl
    simp only [ne_eq, not_true_eq_false, if_false]
    rcases over_zero h he with ⟨_, c⟩ | ⟨_, c⟩ | ⟨c1, c⟩ | ⟨c1, c⟩
    · rw [n1] at c; exact absurd c (by simp)
    · rw [n2] at c; exact absurd c (by simp)
    · exact ⟨e - 3, by omega, by rw [if_pos c]; omega, by rw [if_pos c]; omega⟩
    · refine ⟨e - 4, by omega, ?_, ?_⟩
      · split
        · omega
        · first | omega | (rw [if_pos c]; omega)
      · split
        · omega
        · first | omega | (rw [if_pos c]; omega)
  · obtain ⟨c1, c2⟩ := over_some hk h he
    exact ⟨e - 1, by omega, by rw [if_pos hk, if_pos c2]; omega, by rw [if_pos hk, if_pos c2]; omega⟩

theorem over_62 {k : Int} (hk : k ≠ 0) (l : List Int) : overL k (l ++ [62]) = true := by
  unfold overL; rw [endsL_last]; simp [hk]
theorem over_3 (l : List Int) : overL 0 (l ++ [45, 45, 62]) = true ∧ endN (l ++ [45, 45, 62]) = 3 := by
  have h3 : endsL [45, 45, 62] (l ++ [45, 45, 62]) = true := by unfold endsL; rw [decide_eq_true_eq]; exact ⟨l, rfl⟩
  have hN : endN (l ++ [45, 45, 62]) = 3 := by
    unfold endN
    rw [if_neg (by simp), if_neg (by simp), if_pos h3]
  refine ⟨?_, hN⟩
  unfold overL
  rw [hN, show l ++ [45, 45, 62] = (l ++ [45, 45]) ++ [62] by simp, endsL_last]
  rfl
theorem over_4 (l : List Int) : overL 0 (l ++ [45, 45, 33, 62]) = true ∧ endN (l ++ [45, 45, 33, 62]) = 4 := by
  have h4 : endsL [45, 45, 33, 62] (l ++ [45, 45, 33, 62]) = true := by unfold endsL; rw [decide_eq_true_eq]; exact ⟨l, rfl⟩
  have h3 : endsL [45, 45, 62] (l ++ [45, 45, 33, 62]) = false := by
    unfold endsL; rw [decide_eq_false_iff_not]
    rintro ⟨p, hp⟩
    have h := congrArg List.reverse hp
    simp at h
  have hN : endN (l ++ [45, 45, 33, 62]) = 4 := by
    unfold endN
    rw [if_neg (by simp), if_neg (by simp), if_neg (by rw [h3]; simp), if_pos h4]
  refine ⟨?_, hN⟩
  unfold overL
  rw [hN, show l ++ [45, 45, 33, 62] = (l ++ [45, 45, 33]) ++ [62] by simp, endsL_last]
  rfl

/-- the reference's end says what the runes say -/
theorem end_spec {k : Int} {xs : List Int} {to n : Nat} {cl : Bool} (h : EndSpec k xs to n cl) :
    (cl = true ∧ ClosedAt k xs n ∧ to = n - tailB k (xs.take n)) ∨ (cl = false ∧ NeverC k xs ∧ to = xs.length ∧ n = xs.length) := by
  rcases h with ⟨rfl, h1, rfl, rfl, rfl⟩ | ⟨rfl, h1, h2, rfl, rfl, rfl⟩ | ⟨hno, h | h⟩
  · obtain ⟨r, rfl⟩ := pre_iff.1 h1
    refine .inl ⟨rfl, ⟨by omega, by simp, ?_, fun e' a b => by omega⟩, ?_⟩
    · show overL 0 [62] = true; decide +kernel
    · show 0 = 1 - tailB 0 [62]; decide +kernel
  · obtain ⟨r, rfl⟩ := pre_iff.1 h2
    refine .inl ⟨rfl, ⟨by omega, by simp, ?_, fun e' a b => ?_⟩, ?_⟩
    · show overL 0 [45, 62] = true; decide +kernel
    · obtain rfl : e' = 1 := by omega
      show overL 0 [45] = false; decide +kernel
    · show 0 = 2 - tailB 0 [45, 62]; decide +kernel
  · obtain ⟨h1, h2, h3, rfl, rfl⟩ := h
    refine .inl ⟨rfl, ?_, ?_⟩
    · have hle : to + matchAt k xs to ≤ xs.length ∧ overL k (xs.take (to + matchAt k xs to)) = true := by
        unfold matchAt at h2 ⊢
        by_cases hk : k = 0
        · subst hk
          simp only [ne_eq, not_true_eq_false, if_false] at h2 ⊢
          split
          · rename_i c; have := pre_take c (by omega); refine ⟨this.1, ?_⟩; rw [show to + 3 = to + ([45, 45, 62] : List Int).length from rfl, this.2]; exact (over_3 _).1
          · rename_i c3
            rw [if_neg c3] at h2
            split
            · rename_i c; have := pre_take c (by omega); refine ⟨this.1, ?_⟩; rw [show to + 4 = to + ([45, 45, 33, 62] : List Int).length from rfl, this.2]; exact (over_4 _).1
            · rename_i c4; rw [if_neg c4] at h2; exact absurd rfl h2
        · rw [if_pos hk] at h2 ⊢
          split
          · rename_i c
            refine ⟨by omega, ?_⟩
            rw [List.take_add_one, c]; exact over_62 hk _
          · rename_i c; rw [if_neg c] at h2; exact absurd rfl h2
      refine ⟨by omega, hle.1, hle.2, fun e' a b => ?_⟩
      cases ho : overL k (xs.take e')
      · rfl
      · obtain ⟨j, j1, j2, j3⟩ := match_of_over ho a (by omega) hno
        rcases Nat.lt_trichotomy j to with hlt | rfl | hgt
        · exact absurd (h3 j hlt) j2
        · omega
        · exfalso
          have m3 : 1 ≤ matchAt k xs j := by omega
          unfold matchAt at j2 j3 b h2 m3
          by_cases hk : k = 0
          · subst hk
            simp only [ne_eq, not_true_eq_false, if_false] at j2 j3 b h2 m3
            split at b
            · split at j3
              · omega
              · split at j3
                · omega
                · rename_i c1 c2 c3
                  rw [if_neg c2, if_neg c3] at j2; exact absurd rfl j2
            · rename_i c3
              split at b
              · rename_i c4
                split at j3
                · rename_i c5
                  have hj : j = to + 1 ∨ to + 2 ≤ j := by omega
                  rcases hj with rfl | hj
                  · obtain ⟨r1, e1⟩ := pre_iff.1 c4
                    obtain ⟨r2, e2⟩ := pre_iff.1 c5
                    rw [← List.drop_drop, e1] at e2
                    simp at e2
                  · omega
                · split at j3
                  · omega
                  · rename_i c5 c6
                    rw [if_neg c5, if_neg c6] at j2; exact absurd rfl j2
              · rename_i c4
                rw [if_neg c3, if_neg c4] at h2; exact absurd rfl h2
          · rw [if_pos hk] at b j3
            split at b
            · split at j3 <;> omega
            · split at j3 <;> omega
    · unfold tailB matchAt
      unfold matchAt at h2
      by_cases hk : k = 0
      · subst hk
        simp only [ne_eq, not_true_eq_false, if_false, if_true] at h2 ⊢
        split
        · rename_i c; have := pre_take c (by omega); rw [show to + 3 = to + ([45, 45, 62] : List Int).length from rfl, this.2, (over_3 _).2]; rfl
        · rename_i c3
          rw [if_neg c3] at h2
          split
          · rename_i c; have := pre_take c (by omega); rw [show to + 4 = to + ([45, 45, 33, 62] : List Int).length from rfl, this.2, (over_4 _).2]; rfl
          · rename_i c4; rw [if_neg c4] at h2; exact absurd rfl h2
      · rw [if_pos hk] at h2 ⊢
        rw [if_neg hk]
        split
        · omega
        · rename_i c; rw [if_neg c] at h2; exact absurd rfl h2
  · obtain ⟨h1, rfl, rfl, rfl⟩ := h
    refine .inr ⟨rfl, fun e' a b => ?_, rfl, rfl⟩
    cases ho : overL k (xs.take e')
    · rfl
    · obtain ⟨j, j1, j2, j3⟩ := match_of_over ho a b hno
      exact absurd (h1 j j1) j2

end Go.Proofs.Ytoccmpaonicnnaa
