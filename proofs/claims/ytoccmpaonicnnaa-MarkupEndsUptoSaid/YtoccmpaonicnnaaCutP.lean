/- The plain laws of cutting: the greatest place up to n that parts no rune. No program is named here. -/
import Derived.Test.YtoccmpaonicnnaaMendP
import Derived.Test.YtoccmpaonicnnaaUtfA
namespace Go.Proofs.Ytoccmpaonicnnaa
set_option linter.unusedVariables false
set_option linter.unusedSimpArgs false

theorem pcsF_shift : ∀ (f : Nat) (b : List Int) (p q : Nat), (pcsF f b (p + q)).map pcPair = (pcsF f b p).map fun c => (c.pos + q, c.r)
  | 0, _, _, _ => rfl
  | f + 1, b, p, q => by
    simp only [pcsF]
    split
    · rfl
    · simp only [List.map_cons, pcPair]
      rw [show p + q + (rd b).2.1 = (p + (rd b).2.1) + q from by omega, pcsF_shift f _ _ q]
theorem prs_nil : prs [] = [] := rfl
theorem prs_cons {b : List Int} (hb : 0 < b.length) : prs b = (0, (rd b).1) :: (prs (b.drop (rd b).2.1)).map fun x => (x.1 + (rd b).2.1, x.2) := by
  have := pcsF_shift (b.drop (rd b).2.1).length (b.drop (rd b).2.1) 0 (rd b).2.1
  rw [Nat.zero_add] at this
  rw [prs, pcs_cons hb, List.map_cons, this, prs, pcs_is, List.map_map]
  rfl
theorem prs_lt (b : List Int) : ∀ x ∈ prs b, x.1 < b.length := by
  refine pieces_ind (C := fun b => ∀ x ∈ prs b, x.1 < b.length) (fun x hx => by simp [prs_nil] at hx) (fun b h0 ih x hx => ?_) b
  have hs := rd_size b h0
  rw [prs_cons h0, List.mem_cons] at hx
  rcases hx with rfl | hx
  · exact h0
  · obtain ⟨y, hy, rfl⟩ := List.mem_map.1 hx
    have := ih y hy
    simp at this ⊢; omega
theorem prs_sorted (b : List Int) : (prs b).Pairwise fun x y => x.1 < y.1 := by
  refine pieces_ind (C := fun b => (prs b).Pairwise fun x y => x.1 < y.1) List.Pairwise.nil (fun b h0 ih => ?_) b
  have hs := rd_size b h0
  rw [prs_cons h0]
  refine List.Pairwise.cons (fun y hy => ?_) ?_
  · obtain ⟨z, _, rfl⟩ := List.mem_map.1 hy
    simp; omega
  · rw [List.pairwise_map]
    exact ih.imp fun h => by simp; omega

/-- the last place up to n of those that come -/
def cutF (n : Int) (l : List (Nat × Int)) (c : Nat) : Nat := l.foldl (fun c p => if (p.1 : Int) ≤ n then p.1 else c) c
def cutOf (xs : List Int) (n : Int) : Nat := if (xs.length : Int) ≤ n then xs.length else cutF n (prs xs) 0
theorem cutF_snoc (n : Int) (l : List (Nat × Int)) (x : Nat × Int) (c : Nat) : cutF n (l ++ [x]) c = if (x.1 : Int) ≤ n then x.1 else cutF n l c := by simp [cutF]
theorem cutF_append (n : Int) (l m : List (Nat × Int)) (c : Nat) : cutF n (l ++ m) c = cutF n m (cutF n l c) := by simp [cutF]
theorem cutF_over (n : Int) : ∀ (l : List (Nat × Int)) (c : Nat), (∀ x ∈ l, n < (x.1 : Int)) → cutF n l c = c
  | [], c, _ => rfl
  | x :: l, c, h => by
    have h1 := h x (by simp)
    simp only [cutF, List.foldl_cons]
    rw [if_neg (by omega)]
    exact cutF_over n l c fun y hy => h y (by simp [hy])
theorem cutF_stop {n : Int} {xs : List Int} {pre rest : List (Nat × Int)} {x : Nat × Int} (h : prs xs = pre ++ x :: rest) (hx : n < (x.1 : Int)) : cutF n (prs xs) 0 = cutF n pre 0 := by
  have hs := prs_sorted xs
  rw [h] at hs ⊢
  rw [cutF_append]
  refine cutF_over n _ _ fun y hy => ?_
  rcases List.mem_cons.1 hy with rfl | hy
  · exact hx
  · have := (List.pairwise_cons.1 (List.pairwise_append.1 hs).2.1).1 y hy
    omega
theorem cutF_mem (n : Int) : ∀ (l : List (Nat × Int)) (c : Nat), cutF n l c = c ∨ ∃ x ∈ l, cutF n l c = x.1 ∧ (x.1 : Int) ≤ n
  | [], c => .inl rfl
  | x :: l, c => by
    simp only [cutF, List.foldl_cons]
    by_cases h : (x.1 : Int) ≤ n
    · rw [if_pos h]
      rcases cutF_mem n l x.1 with h1 | ⟨y, hy, h1, h2⟩
      · exact .inr ⟨x, by simp, h1, h⟩
      · exact .inr ⟨y, by simp [hy], h1, h2⟩
    · rw [if_neg h]
      rcases cutF_mem n l c with h1 | ⟨y, hy, h1, h2⟩
      · exact .inl h1
      · exact .inr ⟨y, by simp [hy], h1, h2⟩

/-- a place that parts no rune -/
def IsPlace (xs : List Int) (c : Nat) : Prop := c = xs.length ∨ c = 0 ∨ ∃ x ∈ prs xs, x.1 = c
theorem cutOf_place (xs : List Int) (n : Int) : IsPlace xs (cutOf xs n) := by
  unfold cutOf
  split
  · exact .inl rfl
  · rcases cutF_mem n (prs xs) 0 with h | ⟨x, hx, h, _⟩
    · exact .inr (.inl h)
    · exact .inr (.inr ⟨x, hx, h.symm⟩)
theorem place_le {xs : List Int} {c : Nat} (h : IsPlace xs c) : c ≤ xs.length := by
  rcases h with rfl | rfl | ⟨x, hx, rfl⟩
  · exact Nat.le_refl _
  · omega
  · have := prs_lt xs x hx; omega
theorem cutOf_at {xs : List Int} {c : Nat} (h : IsPlace xs c) : cutOf xs (c : Int) = c := by
  have hle := place_le h
  unfold cutOf
  by_cases hc : c = xs.length
  · rw [if_pos (by omega)]; exact hc.symm
  · rw [if_neg (by omega)]
    rcases h with h | rfl | ⟨x, hx, rfl⟩
    · exact absurd h hc
    · rcases cutF_mem ((0 : Nat) : Int) (prs xs) 0 with h | ⟨x, hx, h, h2⟩
      · exact h
      · rw [h]; omega
    · obtain ⟨pre, rest, e⟩ := List.append_of_mem hx
      have hs := prs_sorted xs
      rw [e] at hs ⊢
      rw [show pre ++ x :: rest = (pre ++ [x]) ++ rest from by simp, cutF_append, cutF_snoc, if_pos (by omega)]
      refine cutF_over _ _ _ fun y hy => ?_
      have := (List.pairwise_cons.1 (List.pairwise_append.1 hs).2.1).1 y hy
      omega
theorem runes_part {xs : List Int} : ∀ c, IsPlace xs c → runesOf (xs.take c) ++ runesOf (xs.drop c) = runesOf xs := by
  refine pieces_ind (C := fun xs => ∀ c, IsPlace xs c → runesOf (xs.take c) ++ runesOf (xs.drop c) = runesOf xs) (fun c _ => by simp [runes_nil]) (fun b h0 ih c hc => ?_) xs
  have hs := rd_size b h0
  by_cases hc0 : c = 0
  · subst hc0; simp [runes_nil]
  · have hge : (rd b).2.1 ≤ c ∧ IsPlace (b.drop (rd b).2.1) (c - (rd b).2.1) := by
      rcases hc with rfl | hc | ⟨x, hx, rfl⟩
      · exact ⟨hs.2.1, .inl (by simp)⟩
      · exact absurd hc hc0
      · rw [prs_cons h0, List.mem_cons] at hx
        rcases hx with rfl | hx
        · exact absurd rfl hc0
        · obtain ⟨y, hy, rfl⟩ := List.mem_map.1 hx
          exact ⟨by simp, .inr (.inr ⟨y, hy, by simp⟩)⟩
    have ih2 := ih _ hge.2
    have hcut := rd_cut h0 hge.1
    have hle := place_le hc
    rw [runes_cons (b := b.take c) (by simp; omega), hcut.1, hcut.2, List.cons_append, runes_cons (b := b) h0]
    congr 1
    rw [← ih2, List.drop_drop, List.drop_take, Nat.add_sub_cancel' hge.1]

end Go.Proofs.Ytoccmpaonicnnaa
