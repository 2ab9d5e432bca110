/- The plain law of decoding: bytes (numbers) to runes. No program is named here. -/
namespace Go.Proofs.Ytbdkiiaiadbmbaa

def bndM (c : Int) : Int := if c < 128 then 0 else if 194 ≤ c ∧ c ≤ 223 then 1 else if 224 ≤ c ∧ c ≤ 239 then 2 else if 240 ≤ c ∧ c ≤ 244 then 3 else -1
def bndL (c : Int) : Int := if c < 194 then 0 else if c = 224 then 160 else if c = 240 then 144 else if c ≤ 244 then 128 else 0
def bndH (c : Int) : Int := if c < 194 then 0 else if c = 237 then 159 else if c = 244 then 143 else if c ≤ 244 then 191 else 0

/-- the rounds that are left: f of them; i: the place; r: what has come -/
def rdGo (b : List Int) (m : Nat) : Nat → Nat → Int → Int → Int → Int × Nat × Int
  | 0, _, r, _, _ => (r, m + 1, 0)
  | f + 1, i, r, lo, hi =>
    match b[i]? with
    | none => (65533, i, 2)
    | some x => if x < lo ∨ hi < x then (65533, i, 1) else rdGo b m f (i + 1) (r * 64 + x % 64) 128 191

/-- the rune at the beginning of bytes, how many it takes, what it is (0 whole, 1 wrong, 2 begun) -/
def rd (b : List Int) : Int × Nat × Int :=
  match b[0]? with
  | none => (65533, 1, 1)
  | some c =>
    if c < 128 then (c, 1, 0)
    else if bndM c < 0 then (65533, 1, 1)
    else rdGo b (bndM c).toNat (bndM c).toNat 1 (if bndM c = 1 then c % 32 else if bndM c = 2 then c % 16 else c % 8) (bndL c) (bndH c)

theorem rdGo_end (b : List Int) (m i : Nat) (r lo hi : Int) : rdGo b m 0 i r lo hi = (r, m + 1, 0) := rfl
theorem rdGo_none {b : List Int} {i : Nat} (h : b[i]? = none) (m f : Nat) (r lo hi : Int) : rdGo b m (f + 1) i r lo hi = (65533, i, 2) := by
  simp [rdGo, h]
theorem rdGo_bad {b : List Int} {i : Nat} {x lo hi : Int} (h : b[i]? = some x) (hx : x < lo ∨ hi < x) (m f : Nat) (r : Int) : rdGo b m (f + 1) i r lo hi = (65533, i, 1) := by
  simp [rdGo, h, hx]
theorem rdGo_step {b : List Int} {i : Nat} {x lo hi : Int} (h : b[i]? = some x) (h1 : lo ≤ x) (h2 : x ≤ hi) (m f : Nat) (r : Int) : rdGo b m (f + 1) i r lo hi = rdGo b m f (i + 1) (r * 64 + x % 64) 128 191 := by
  have : ¬ (x < lo ∨ hi < x) := by omega
  simp [rdGo, h, this]

theorem bndM_cases (c : Int) (h0 : 128 ≤ c) (h1 : c ≤ 255) : bndM c = -1 ∨ bndM c = 1 ∨ bndM c = 2 ∨ bndM c = 3 := by
  unfold bndM; repeat (first | (split; · omega) | omega)
theorem bndL_rng (c : Int) : 0 ≤ bndL c ∧ bndL c ≤ 255 := by unfold bndL; repeat (first | (split; · omega) | omega)
theorem bndH_rng (c : Int) : 0 ≤ bndH c ∧ bndH c ≤ 255 := by unfold bndH; repeat (first | (split; · omega) | omega)

theorem rdGo_size (b : List Int) (m : Nat) : ∀ (f i : Nat) (r lo hi : Int), f + i = m + 1 → 1 ≤ i → i ≤ b.length →
    1 ≤ (rdGo b m f i r lo hi).2.1 ∧ (rdGo b m f i r lo hi).2.1 ≤ b.length ∧ (rdGo b m f i r lo hi).2.1 ≤ m + 1 ∧
    ((rdGo b m f i r lo hi).2.2 = 2 → (rdGo b m f i r lo hi).2.1 = b.length) ∧ ((rdGo b m f i r lo hi).2.2 = 0 ∨ (rdGo b m f i r lo hi).2.2 = 1 ∨ (rdGo b m f i r lo hi).2.2 = 2)
  | 0, i, r, lo, hi, h, h1, h2 => by
    rw [rdGo_end]; refine ⟨by simp, by simp; omega, by simp, ?_, .inl rfl⟩; intro h; simp at h
  | f + 1, i, r, lo, hi, h, h1, h2 => by
    rcases hx : b[i]? with _ | x
    · rw [rdGo_none hx]
      have : b.length ≤ i := by rcases Nat.lt_or_ge i b.length with h | h; · rw [List.getElem?_eq_getElem h] at hx; cases hx
                                · exact h
      exact ⟨h1, h2, by simp; omega, fun _ => by simp; omega, .inr (.inr rfl)⟩
    · have hlt : i < b.length := (List.getElem?_eq_some_iff.1 hx).1
      by_cases hb : x < lo ∨ hi < x
      · rw [rdGo_bad hx hb]; exact ⟨h1, h2, by simp; omega, fun h => by simp at h, .inr (.inl rfl)⟩
      · rw [rdGo_step hx (by omega) (by omega)]
        exact rdGo_size b m f (i + 1) _ _ _ (by omega) (by omega) (by omega)

theorem rd_size (b : List Int) (h : 0 < b.length) : 1 ≤ (rd b).2.1 ∧ (rd b).2.1 ≤ b.length ∧ (rd b).2.1 ≤ 4 ∧ ((rd b).2.2 = 2 → (rd b).2.1 = b.length) ∧ ((rd b).2.2 = 0 ∨ (rd b).2.2 = 1 ∨ (rd b).2.2 = 2) := by
  have hc : b[0]? = some b[0] := List.getElem?_eq_getElem h
  have h8 : ∀ c : Int, bndM c ≤ 3 := by intro c; unfold bndM; (repeat' split) <;> omega
  unfold rd
  rw [hc]
  simp only []
  split
  · exact ⟨by simp, by simp; omega, by simp, fun h => by simp at h, .inl rfl⟩
  · split
    · exact ⟨by simp, by simp; omega, by simp, fun h => by simp at h, .inr (.inl rfl)⟩
    · rename_i h1 h2
      have := rdGo_size b (bndM b[0]).toNat (bndM b[0]).toNat 1 (if bndM b[0] = 1 then b[0] % 32 else if bndM b[0] = 2 then b[0] % 16 else b[0] % 8) (bndL b[0]) (bndH b[0]) rfl (by omega) (by omega)
      refine ⟨this.1, this.2.1, ?_, this.2.2.2.1, this.2.2.2.2⟩
      have h3 := this.2.2.1
      have h4 := h8 b[0]
      omega

/-- a rune, where it begins, how many bytes it takes, what it is -/
structure Pc where
  r : Int
  pos : Nat
  n : Nat
  what : Int

def pcsF : Nat → List Int → Nat → List Pc
  | 0, _, _ => []
  | f + 1, b, p => if b = [] then [] else ⟨(rd b).1, p, (rd b).2.1, (rd b).2.2⟩ :: pcsF f (b.drop (rd b).2.1) (p + (rd b).2.1)

theorem pcsF_nil (f p : Nat) : pcsF f [] p = [] := by cases f <;> simp [pcsF]
theorem pcsF_two : ∀ (f g : Nat) (b : List Int) (p : Nat), b.length ≤ f → b.length ≤ g → pcsF f b p = pcsF g b p
  | 0, g, b, p, h, h' => by obtain rfl : b = [] := List.eq_nil_of_length_eq_zero (by omega); simp [pcsF_nil]
  | f + 1, 0, b, p, h, h' => by obtain rfl : b = [] := List.eq_nil_of_length_eq_zero (by omega); simp [pcsF_nil]
  | f + 1, g + 1, b, p, h, h' => by
    by_cases hb : b = []
    · subst hb; simp [pcsF]
    · have hl : 0 < b.length := by cases b with | nil => exact absurd rfl hb | cons => simp
      have hs := rd_size b hl
      simp only [pcsF, if_neg hb]
      rw [pcsF_two f g _ _ (by simp; omega) (by simp; omega)]
theorem pcsF_fuel (f : Nat) (b : List Int) (p : Nat) (h : b.length ≤ f) : pcsF f b p = pcsF b.length b p := pcsF_two f b.length b p h (Nat.le_refl _)

/-- the pieces from place p on -/
def pcsAt (b : List Int) (p : Nat) : List Pc := pcsF (b.length - p) (b.drop p) p
def pcs (b : List Int) : List Pc := pcsAt b 0

theorem pcsAt_end (b : List Int) (p : Nat) (h : b.length ≤ p) : pcsAt b p = [] := by
  unfold pcsAt; rw [Nat.sub_eq_zero_of_le h]; rfl
theorem pcsAt_cons (b : List Int) (p : Nat) (h : p < b.length) : pcsAt b p = ⟨(rd (b.drop p)).1, p, (rd (b.drop p)).2.1, (rd (b.drop p)).2.2⟩ :: pcsAt b (p + (rd (b.drop p)).2.1) := by
  have hl : 0 < (b.drop p).length := by simp; omega
  have hs := rd_size (b.drop p) hl
  have hne : b.drop p ≠ [] := by intro h; rw [h] at hl; simp at hl
  unfold pcsAt
  obtain ⟨g, hg⟩ : ∃ g, b.length - p = g + 1 := ⟨b.length - p - 1, by omega⟩
  rw [hg]
  simp only [pcsF, if_neg hne]
  simp only [List.length_drop] at hs
  rw [List.drop_drop, pcsF_fuel g _ _ (by simp; omega), pcsF_fuel (b.length - (p + _)) _ _ (by simp)]

def pcRune (c : Pc) : Int := c.r
def pcPair (c : Pc) : Nat × Int := (c.pos, c.r)
def runesOf (b : List Int) : List Int := (pcs b).map pcRune

theorem pcsF_length : ∀ (f : Nat) (b : List Int) (p : Nat), (pcsF f b p).length ≤ f
  | 0, _, _ => by simp [pcsF]
  | f + 1, b, p => by
    simp only [pcsF]
    split
    · simp
    · have := pcsF_length f (b.drop (rd b).2.1) (p + (rd b).2.1)
      simp; omega
theorem pcs_length (b : List Int) : (pcs b).length ≤ b.length := by have := pcsF_length (b.length - 0) (b.drop 0) 0; simpa [pcs, pcsAt] using this

/-- the first piece that is begun: how many bytes it has -/
def tl : List Pc → Nat
  | [] => 0
  | c :: r => if c.what = 2 then c.n else tl r
def tailOf (b : List Int) : Nat := tl (pcs b)

def goodB (r : Int) : Bool := decide (0 ≤ r) && decide (r ≤ 1114111) && (decide (r < 55296) || decide (57343 < r))
theorem goodB_iff (r : Int) : goodB r = true ↔ (0 ≤ r ∧ r ≤ 1114111 ∧ (r < 55296 ∨ 57343 < r)) := by
  simp [goodB, and_assoc]
theorem goodB_false (r : Int) : goodB r = false ↔ ¬ (0 ≤ r ∧ r ≤ 1114111 ∧ (r < 55296 ∨ 57343 < r)) := by
  rw [← goodB_iff]; simp
def widthOf (r : Int) : Int := if goodB r = false then 3 else if r < 128 then 1 else if r < 2048 then 2 else if r < 65536 then 3 else 4

end Go.Proofs.Ytbdkiiaiadbmbaa
