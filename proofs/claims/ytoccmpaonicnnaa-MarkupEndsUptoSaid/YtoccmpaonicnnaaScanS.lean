/- The plain law of a scanner that is given runes: what it says is what the bytes of these runes say. No program is named here. -/
import Derived.Test.YtoccmpaonicnnaaScanR
namespace Go.Proofs.Ytoccmpaonicnnaa
set_option linter.unusedVariables false
set_option linter.unusedSimpArgs false

def NotYetL (k : Int) (l : List Int) : Prop := ∀ q x, q ++ [x] <+: l → overL k (q ++ [x]) = false
theorem NotYetL.nil (k : Int) : NotYetL k [] := fun q x h => by have := h.length_le; simp at this
theorem prefix_snoc {q l : List Int} {x y : Int} (h : q ++ [x] <+: l ++ [y]) : q ++ [x] <+: l ∨ q ++ [x] = l ++ [y] := by
  by_cases hl : q.length = l.length
  · right
    obtain ⟨r, hr⟩ := h
    have h2 := congrArg List.length hr
    simp at h2
    obtain rfl : r = [] := List.eq_nil_of_length_eq_zero (by omega)
    simpa using hr
  · left
    obtain ⟨r, hr⟩ := h
    have h2 := congrArg List.length hr
    simp at h2
    have hrl : 0 < r.length := by omega
    obtain ⟨r', z, rfl⟩ : ∃ r' z, r = r' ++ [z] := by
      rcases List.eq_nil_or_concat r with rfl | ⟨r', z, rfl⟩
      · simp at hrl
      · exact ⟨r', z, by simp⟩
    rw [← List.append_assoc] at hr
    exact ⟨r', List.append_inj_left' hr (by simp)⟩
theorem NotYetL.snoc {k : Int} {l : List Int} {x : Int} (h : NotYetL k l) (hx : overL k (l ++ [x]) = false) : NotYetL k (l ++ [x]) := by
  intro q y hq
  rcases prefix_snoc hq with h1 | h1
  · exact h q y h1
  · rw [h1]; exact hx

theorem byte_over {k : Int} {b : List Int} (hb : Byts b) {e : Nat} (h : overL k (b.take e) = true) : ∃ q, overL k (q ++ [62]) = true ∧ runesOf b = q ++ 62 :: runesOf (b.drop e) := by
  obtain ⟨b', hb'⟩ : ∃ b', b.take e = b' ++ [62] := by
    have := h
    unfold overL endsL at this
    simp only [Bool.and_eq_true, decide_eq_true_eq] at this
    obtain ⟨p, hp⟩ := this.1
    exact ⟨p, hp.symm⟩
  have hxs : b = b' ++ 62 :: b.drop e := by
    conv => lhs; rw [← List.take_append_drop e b]
    rw [hb']; simp
  have hbb : Byts b' := fun x hx => hb x (by rw [hxs]; simp [hx])
  refine ⟨runesOf b', ?_, ?_⟩
  · rw [← overL_runes (hb.take e), hb', runes_asc asc_1 hbb] at h; exact h
  · conv => lhs; rw [hxs]
    exact runes_ascii (by omega) _ hbb
theorem never_of {k : Int} {b : List Int} (hb : Byts b) (h : NotYetL k (runesOf b)) : NeverC k b := by
  intro e h1 h2
  cases ho : overL k (b.take e)
  · rfl
  · obtain ⟨q, e1, e2⟩ := byte_over hb ho
    have := h q 62 ⟨runesOf (b.drop e), by rw [e2]; simp⟩
    rw [this] at e1; exact absurd e1 (by simp)
theorem runes_pos {b : List Int} (h : 0 < b.length) : 0 < (runesOf b).length := by rw [runes_cons h]; simp
theorem closed_of {k : Int} {b l : List Int} {r : Int} (hb : Byts b) (hr : runesOf b = l ++ [r]) (hn : NotYetL k l) (ho : overL k (l ++ [r]) = true) : ClosedAt k b b.length := by
  have hpos : 0 < b.length := by
    rcases Nat.eq_zero_or_pos b.length with h | h
    · rw [List.eq_nil_of_length_eq_zero h, runes_nil] at hr; simp at hr
    · exact h
  refine ⟨hpos, Nat.le_refl _, by rw [List.take_length, ← overL_runes hb, hr]; exact ho, fun e h1 h2 => ?_⟩
  cases hov : overL k (b.take e)
  · rfl
  · obtain ⟨q, e1, e2⟩ := byte_over hb hov
    have hp := runes_pos (b := b.drop e) (by simp; omega)
    rw [hr] at e2
    have hpre : q ++ [62] <+: l ++ [r] := ⟨runesOf (b.drop e), by rw [e2]; simp⟩
    rcases prefix_snoc hpre with h3 | h3
    · rw [hn q 62 h3] at e1; exact absurd e1 (by simp)
    · rw [← h3] at e2
      have := congrArg List.length e2
      simp only [List.length_append, List.length_cons, List.length_nil] at this
      omega

/-- the runes are not yet over: what their bytes say -/
theorem whole_runes_open {k : Int} {l : List Int} (h : NotYetL k (l.map fixR)) : wholeR k (encs l) = (sayR k (openN k (l.map fixR)) (l.map fixR), (encs l).length, false) := by
  have hb := encs_byts l
  have hr := runes_enc l
  rw [← hr] at h ⊢
  rw [whole_never hb (never_of hb h), say_runes hb (by rw [openN_runes hb]; exact open_split k _), openN_runes hb]
/-- they are over -/
theorem whole_runes_over {k : Int} {l : List Int} {r : Int} (h : NotYetL k (l.map fixR)) (ho : overL k (l.map fixR ++ [fixR r]) = true) :
    wholeR k (encs (l ++ [r])) = (sayR k (if k = 0 then endN (l.map fixR ++ [fixR r]) else 1) (l.map fixR ++ [fixR r]), (encs (l ++ [r])).length, true) := by
  have hb := encs_byts (l ++ [r])
  have hr := runes_enc (l ++ [r])
  rw [List.map_append, List.map_cons, List.map_nil] at hr
  have hc := closed_of hb hr h ho
  have ht := tail_split hc.2.2.1
  rw [List.take_length] at ht
  rw [whole_closed hb hc, List.take_length, ← hr, endN_runes hb]
  have := say_runes hb (k := k) ht
  unfold tailB at this ⊢
  rw [this]

end Go.Proofs.Ytoccmpaonicnnaa
