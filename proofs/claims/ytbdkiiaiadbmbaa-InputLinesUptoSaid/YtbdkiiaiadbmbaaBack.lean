/- The plain laws of writing and reading back: runes to bytes and bytes to runes. No program is named here. -/
import Derived.Test.YtbdkiiaiadbmbaaBase
import Derived.Test.YtbdkiiaiadbmbaaDecC
import Derived.Test.YtbdkiiaiadbmbaaEnc
namespace Go.Proofs.Ytbdkiiaiadbmbaa
set_option linter.unusedVariables false
set_option linter.unusedSimpArgs false

/-- bytes, by membership -/
def Byts (xs : List Int) : Prop := ∀ x ∈ xs, 0 ≤ x ∧ x ≤ 255
theorem Byt.byts {xs : List Int} (h : Byt xs) : Byts xs := fun x hx => by obtain ⟨j, hj⟩ := List.mem_iff_getElem?.1 hx; exact h j x hj
theorem Byts.byt {xs : List Int} (h : Byts xs) : Byt xs := fun j x hj => h x (List.mem_of_getElem? hj)
theorem Byts.drop {xs : List Int} (h : Byts xs) (n : Nat) : Byts (xs.drop n) := fun x hx => h x (List.mem_of_mem_drop hx)
theorem Byts.take {xs : List Int} (h : Byts xs) (n : Nat) : Byts (xs.take n) := fun x hx => h x (List.mem_of_mem_take hx)
theorem Byts.append {xs ys : List Int} (h : Byts xs) (k : Byts ys) : Byts (xs ++ ys) := fun x hx => (List.mem_append.1 hx).elim (h x) (k x)
theorem encR_byts (r : Int) : Byts (encR r) := fun x hx => by
  have hg := (goodB_iff _).1 (fixR_good r)
  exact encC_byt (fixR r) hg.1 hg.2.1 x hx
theorem encs_byts (l : List Int) : Byts (encs l) := fun x hx => by
  obtain ⟨r, _, hr⟩ := List.mem_flatMap.1 hx
  exact encR_byts r x hr

theorem rdGo_ok' {b : List Int} {m f i : Nat} {r lo hi : Int} (h : (rdGo b m (f + 1) i r lo hi).2.2 = 0) :
    ∃ y, b[i]? = some y ∧ lo ≤ y ∧ y ≤ hi ∧ rdGo b m (f + 1) i r lo hi = rdGo b m f (i + 1) (r * 64 + y % 64) 128 191 := by
  rcases hy : b[i]? with _ | y
  · rw [rdGo_none hy] at h; simp at h
  · by_cases hb : y < lo ∨ hi < y
    · rw [rdGo_bad hy hb] at h; simp at h
    · exact ⟨y, rfl, by omega, by omega, rdGo_step hy (by omega) (by omega) _ _ _⟩

theorem rd_one {a : Int} (z : List Int) (h : a < 128) : rd (a :: z) = (a, 1, 0) := by simp [rd, h]
theorem rd_none {a : Int} (z : List Int) (h : 128 ≤ a) (hm : bndM a < 0) : rd (a :: z) = (65533, 1, 1) := by
  have h8 : ¬ a < 128 := by omega
  simp [rd, h8, hm]
theorem bndM_1 {a : Int} (h0 : 194 ≤ a) (h1 : a ≤ 223) : bndM a = 1 := by unfold bndM; rw [if_neg (by omega), if_pos ⟨h0, h1⟩]
theorem bndM_2 {a : Int} (h0 : 224 ≤ a) (h1 : a ≤ 239) : bndM a = 2 := by unfold bndM; rw [if_neg (by omega), if_neg (by omega), if_pos ⟨h0, h1⟩]
theorem bndM_3 {a : Int} (h0 : 240 ≤ a) (h1 : a ≤ 244) : bndM a = 3 := by unfold bndM; rw [if_neg (by omega), if_neg (by omega), if_neg (by omega), if_pos ⟨h0, h1⟩]
theorem bndM_n {a : Int} (h0 : 128 ≤ a) (h : a < 194 ∨ 244 < a) : bndM a = -1 := by unfold bndM; rw [if_neg (by omega), if_neg (by omega), if_neg (by omega), if_neg (by omega)]
theorem bndM_of {a : Int} (h0 : 128 ≤ a) : (bndM a = -1 ∧ (a < 194 ∨ 244 < a)) ∨ (bndM a = 1 ∧ 194 ≤ a ∧ a ≤ 223) ∨ (bndM a = 2 ∧ 224 ≤ a ∧ a ≤ 239) ∨ (bndM a = 3 ∧ 240 ≤ a ∧ a ≤ 244) := by
  by_cases h1 : a < 194 ∨ 244 < a
  · exact .inl ⟨bndM_n h0 h1, h1⟩
  · by_cases h2 : a ≤ 223
    · exact .inr (.inl ⟨bndM_1 (by omega) h2, by omega, h2⟩)
    · by_cases h3 : a ≤ 239
      · exact .inr (.inr (.inl ⟨bndM_2 (by omega) h3, by omega, h3⟩))
      · exact .inr (.inr (.inr ⟨bndM_3 (by omega) (by omega), by omega, by omega⟩))

/-- how the first byte's rounds go, as an equation -/
theorem rd_m {a : Int} (z : List Int) {m : Nat} (h : 128 ≤ a) (hm : bndM a = (m : Int)) : rd (a :: z) = rdGo (a :: z) m m 1 (if bndM a = 1 then a % 32 else if bndM a = 2 then a % 16 else a % 8) (bndL a) (bndH a) := by
  have h8 : ¬ a < 128 := by omega
  have h9 : ¬ bndM a < 0 := by omega
  simp only [rd, List.getElem?_cons_zero, if_neg h8, if_neg h9, hm, Int.toNat_natCast]
  rw [if_neg (by omega)]

theorem rd_2 {a b : Int} (z : List Int) (h0 : 194 ≤ a) (h1 : a ≤ 223) (b0 : 128 ≤ b) (b1 : b ≤ 191) : rd (a :: b :: z) = (a % 32 * 64 + b % 64, 2, 0) := by
  have hm := bndM_1 h0 h1
  have hL : bndL a = 128 := by unfold bndL; rw [if_neg (by omega), if_neg (by omega), if_neg (by omega), if_pos (by omega)]
  have hH : bndH a = 191 := by unfold bndH; rw [if_neg (by omega), if_neg (by omega), if_neg (by omega), if_pos (by omega)]
  rw [rd_m (m := 1) _ (by omega) hm, hm, if_pos rfl, hL, hH, rdGo_step (x := b) rfl (by omega) (by omega)]
  rfl
theorem rd_3 {a b c : Int} (z : List Int) (h0 : 224 ≤ a) (h1 : a ≤ 239) (b0 : bndL a ≤ b) (b1 : b ≤ bndH a) (c0 : 128 ≤ c) (c1 : c ≤ 191) : rd (a :: b :: c :: z) = ((a % 16 * 64 + b % 64) * 64 + c % 64, 3, 0) := by
  have hm := bndM_2 h0 h1
  rw [rd_m (m := 2) _ (by omega) hm, hm, if_neg (by decide), if_pos rfl, rdGo_step (x := b) rfl b0 b1, rdGo_step (x := c) rfl (by omega) (by omega)]
  rfl
theorem rd_4 {a b c d : Int} (z : List Int) (h0 : 240 ≤ a) (h1 : a ≤ 244) (b0 : bndL a ≤ b) (b1 : b ≤ bndH a) (c0 : 128 ≤ c) (c1 : c ≤ 191) (d0 : 128 ≤ d) (d1 : d ≤ 191) : rd (a :: b :: c :: d :: z) = (((a % 8 * 64 + b % 64) * 64 + c % 64) * 64 + d % 64, 4, 0) := by
  have hm := bndM_3 h0 h1
  rw [rd_m (m := 3) _ (by omega) hm, hm, if_neg (by decide), if_neg (by decide), rdGo_step (x := b) rfl b0 b1, rdGo_step (x := c) rfl (by omega) (by omega), rdGo_step (x := d) rfl (by omega) (by omega)]
  rfl

theorem bndL_3 {a : Int} (h0 : 224 ≤ a) (h1 : a ≤ 239) : bndL a = if a = 224 then 160 else 128 := by
  unfold bndL; rw [if_neg (by omega)]; split
  · rfl
  · rw [if_neg (by omega), if_pos (by omega)]
theorem bndH_3 {a : Int} (h0 : 224 ≤ a) (h1 : a ≤ 239) : bndH a = if a = 237 then 159 else 191 := by
  unfold bndH; rw [if_neg (by omega)]; split
  · rfl
  · rw [if_neg (by omega), if_pos (by omega)]
theorem bndL_4 {a : Int} (h0 : 240 ≤ a) (h1 : a ≤ 244) : bndL a = if a = 240 then 144 else 128 := by
  unfold bndL; rw [if_neg (by omega), if_neg (by omega)]; split
  · rfl
  · first | rfl | rw [if_pos (by omega)]
theorem bndH_4 {a : Int} (h0 : 240 ≤ a) (h1 : a ≤ 244) : bndH a = if a = 244 then 143 else 191 := by
  unfold bndH; rw [if_neg (by omega), if_neg (by omega)]; split
  · rfl
  · first | rfl | rw [if_pos (by omega)]

/-- what is written is read again -/
theorem rd_encC {c : Int} (z : List Int) (hg : goodB c = true) : rd (encC c ++ z) = (c, (encC c).length, 0) := by
  obtain ⟨g0, g1, g2⟩ := (goodB_iff c).1 hg
  unfold encC
  by_cases h1 : c < 128
  · rw [if_pos h1]; exact rd_one _ h1
  · rw [if_neg h1]
    by_cases h2 : c < 2048
    · rw [if_pos h2]
      show rd (_ :: _ :: _) = _
      rw [rd_2 _ (by omega) (by omega) (by omega) (by omega)]
      simp only [List.length_cons, List.length_nil, Prod.mk.injEq]
      first | omega | exact ⟨by omega, trivial⟩ | exact ⟨by omega, rfl, trivial⟩
    · rw [if_neg h2]
      by_cases h3 : c < 65536
      · rw [if_pos h3]
        show rd (_ :: _ :: _ :: _) = _
        rw [rd_3 _ (by omega) (by omega) (by rw [bndL_3 (by omega) (by omega)]; split <;> omega) (by rw [bndH_3 (by omega) (by omega)]; split <;> omega) (by omega) (by omega)]
        simp only [List.length_cons, List.length_nil, Prod.mk.injEq]
        first | omega | exact ⟨by omega, trivial⟩ | exact ⟨by omega, rfl, trivial⟩
      · rw [if_neg h3]
        show rd (_ :: _ :: _ :: _ :: _) = _
        rw [rd_4 _ (by omega) (by omega) (by rw [bndL_4 (by omega) (by omega)]; split <;> omega) (by rw [bndH_4 (by omega) (by omega)]; split <;> omega) (by omega) (by omega) (by omega) (by omega)]
        simp only [List.length_cons, List.length_nil, Prod.mk.injEq]
        first | omega | exact ⟨by omega, trivial⟩ | exact ⟨by omega, rfl, trivial⟩
theorem rd_enc (r : Int) (z : List Int) : rd (encR r ++ z) = (fixR r, (encR r).length, 0) := rd_encC z (fixR_good r)

/-- what is read whole, in its bytes -/
theorem rd_whole {b : List Int} (hb : Byts b) (h0 : 0 < b.length) (h : (rd b).2.2 = 0) : goodB (rd b).1 = true ∧ encC (rd b).1 = b.take (rd b).2.1 := by
  obtain ⟨a, t, rfl⟩ : ∃ a t, b = a :: t := by cases b with | nil => simp at h0 | cons a t => exact ⟨a, t, rfl⟩
  obtain ⟨a0, a1⟩ := hb a (by simp)
  by_cases h8 : a < 128
  · rw [rd_one t h8]
    refine ⟨(goodB_iff a).2 ⟨a0, by omega, by omega⟩, ?_⟩
    simp only [encC, if_pos h8, List.take_succ_cons, List.take_zero]
  · rcases bndM_of (a := a) (by omega) with ⟨hm, hr⟩ | ⟨hm, hr⟩ | ⟨hm, hr⟩ | ⟨hm, hr⟩
    · rw [rd_none t (by omega) (by omega)] at h; simp at h
    · rw [rd_m (m := 1) _ (by omega) hm] at h
      obtain ⟨y1, hy1, l1, u1, _⟩ := rdGo_ok' h
      obtain ⟨t', rfl⟩ : ∃ t', t = y1 :: t' := by cases t with | nil => simp at hy1 | cons x t => simp at hy1; exact ⟨t, by rw [hy1]⟩
      have hL : bndL a = 128 := by unfold bndL; rw [if_neg (by omega), if_neg (by omega), if_neg (by omega), if_pos (by omega)]
      have hH : bndH a = 191 := by unfold bndH; rw [if_neg (by omega), if_neg (by omega), if_neg (by omega), if_pos (by omega)]
      rw [hL] at l1
      rw [hH] at u1
      rw [rd_2 _ (by omega) (by omega) (by omega) (by omega)]
      refine ⟨(goodB_iff _).2 ⟨by omega, by omega, by omega⟩, ?_⟩
      simp only [encC]
      rw [if_neg (by omega), if_pos (by omega)]
      simp only [List.take_succ_cons, List.take_zero, List.cons.injEq, and_true]
      exact ⟨by omega, by omega⟩
    · rw [rd_m (m := 2) _ (by omega) hm] at h
      obtain ⟨y1, hy1, l1, u1, e1⟩ := rdGo_ok' h
      rw [e1] at h
      obtain ⟨y2, hy2, l2, u2, e2⟩ := rdGo_ok' h
      obtain ⟨t', rfl⟩ : ∃ t', t = y1 :: y2 :: t' := by
        cases t with
        | nil => simp at hy1
        | cons x t =>
          cases t with
          | nil => simp at hy2
          | cons x' t => simp at hy1 hy2; exact ⟨t, by rw [hy1, hy2]⟩
      rw [rd_3 _ (by omega) (by omega) l1 u1 (by omega) (by omega)]
      rw [bndL_3 hr.1 hr.2] at l1
      rw [bndH_3 hr.1 hr.2] at u1
      have k0 : 128 ≤ y1 := by split at l1 <;> omega
      have k1 : y1 ≤ 191 := by split at u1 <;> omega
      have k2 : a = 224 → 160 ≤ y1 := by intro e; rw [if_pos e] at l1; exact l1
      have k3 : a = 237 → y1 ≤ 159 := by intro e; rw [if_pos e] at u1; exact u1
      clear l1 u1 e1 e2 h
      refine ⟨(goodB_iff _).2 ⟨by omega, by omega, by omega⟩, ?_⟩
      simp only [encC]
      rw [if_neg (by omega), if_neg (by omega), if_pos (by omega)]
      simp only [List.take_succ_cons, List.take_zero, List.cons.injEq, and_true]
      exact ⟨by omega, by omega, by omega⟩
    · rw [rd_m (m := 3) _ (by omega) hm] at h
      obtain ⟨y1, hy1, l1, u1, e1⟩ := rdGo_ok' h
      rw [e1] at h
      obtain ⟨y2, hy2, l2, u2, e2⟩ := rdGo_ok' h
      rw [e2] at h
      obtain ⟨y3, hy3, l3, u3, e3⟩ := rdGo_ok' h
      obtain ⟨t', rfl⟩ : ∃ t', t = y1 :: y2 :: y3 :: t' := by
        cases t with
        | nil => simp at hy1
        | cons x t =>
          cases t with
          | nil => simp at hy2
          | cons x' t =>
            cases t with
            | nil => simp at hy3
            | cons x'' t => simp at hy1 hy2 hy3; exact ⟨t, by rw [hy1, hy2, hy3]⟩
      rw [rd_4 _ (by omega) (by omega) l1 u1 (by omega) (by omega) (by omega) (by omega)]
      rw [bndL_4 hr.1 hr.2] at l1
      rw [bndH_4 hr.1 hr.2] at u1
      have k0 : 128 ≤ y1 := by split at l1 <;> omega
      have k1 : y1 ≤ 191 := by split at u1 <;> omega
      have k2 : a = 240 → 144 ≤ y1 := by intro e; rw [if_pos e] at l1; exact l1
      have k3 : a = 244 → y1 ≤ 143 := by intro e; rw [if_pos e] at u1; exact u1
      clear l1 u1 e1 e2 e3 h
      refine ⟨(goodB_iff _).2 ⟨by omega, by omega, by omega⟩, ?_⟩
      simp only [encC]
      rw [if_neg (by omega), if_neg (by omega), if_neg (by omega)]
      simp only [List.take_succ_cons, List.take_zero, List.cons.injEq, and_true]
      exact ⟨by omega, by omega, by omega, by omega⟩

/-- every rune that is read is good -/
theorem rd_good {b : List Int} (hb : Byts b) (h0 : 0 < b.length) : goodB (rd b).1 = true := by
  by_cases h : (rd b).2.2 = 0
  · exact (rd_whole hb h0 h).1
  · rw [rd_wrong h0 (by simpa [goodA] using h)]; rfl
theorem encR_good {r : Int} (h : goodB r = true) : encR r = encC r := by simp [encR, fixR, h]
theorem rd_bytes {b : List Int} (hb : Byts b) (h0 : 0 < b.length) (h : (rd b).2.2 = 0) : encR (rd b).1 = b.take (rd b).2.1 := by
  obtain ⟨h1, h2⟩ := rd_whole hb h0 h
  rw [encR_good h1, h2]

end Go.Proofs.Ytbdkiiaiadbmbaa
