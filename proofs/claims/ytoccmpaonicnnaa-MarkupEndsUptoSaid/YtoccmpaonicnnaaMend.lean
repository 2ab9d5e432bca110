/- utf.Mend, sieveref01.Text: the text of runes. -/
import Derived.Test.YtoccmpaonicnnaaUtfB
import Derived.Test.YtoccmpaonicnnaaUtfC
import Derived.Test.YtoccmpaonicnnaaReads1
import Derived.Test.YtoccmpaonicnnaaStr
import Derived.Test.YtoccmpaonicnnaaMendP
import Derived.Test.YtoccmpaonicnnaaBytes
namespace Go.Proofs.Ytoccmpaonicnnaa
open Go.RowKit
set_option linter.unusedVariables false
set_option linter.unusedSimpArgs false

theorem ret_str {a b : ByteArray} (h : a = b) : Ending.returned (.string a) = .returned (.string b) := by rw [h]

theorem reftext_any (B : Nat) (v : Value) (xs : List Int) (w : World) (hs : SlI .i32 B w v xs) (hB : B ≤ w.heap.size) (hx : xs.length ≤ 274877906944) :
    Calls Try.prog 15 #[v] w fun e w' => e = .returned (.string (strOfNums (encs xs))) ∧ Below w.heap.size w w' := by
  go_enter Try.func15, Try.ntmps15
  go_wp2_with fail
  refine (refbytes_any B v xs _ hs hB hx).mono ?_
  rintro e w1 ⟨u, rfl, hown, hb1⟩
  have hcv := run_conv_sl (P := Try.prog) (slI_of_owns hown (Nat.le_refl _)) 47 9 5 Try.underlying47 Try.underlying5 Try.underlying9
  have HO := Lib.hid hown
  clear hown
  go_wp2
  go_ret
  exact ⟨rfl, hb1⟩

/-- the round's test, and what it says -/
theorem mend_step {s : ByteArray} {p : Nat} (hp : p < s.size) :
    (((Utf8.decode s p).1 : Int) = 65533 ∧ ((s.size : Int) - p < 3 ∨ ((s.extract p (p + 3)).toList == [239, 191, 189]) = false) → (rd ((ns s).drop p)).2.2 ≠ 0 ∧ (Utf8.decode s p).2 = 1) ∧
    (¬ ((Utf8.decode s p).1 : Int) = 65533 ∨ ((3 ≤ (s.size : Int) - p) ∧ ((s.extract p (p + 3)).toList == [239, 191, 189]) = true) → (rd ((ns s).drop p)).2.2 = 0 ∧ (Utf8.decode s p).2 = (rd ((ns s).drop p)).2.1) := by
  obtain ⟨d1, d2⟩ := decode_rd s p hp
  have hl : ((ns s).drop p).length = s.size - p := by simp [ns_length]
  have hb : Byts ((ns s).drop p) := (ns_byts s).drop p
  have h0 : 0 < ((ns s).drop p).length := by omega
  have hf := rd_fffd hb h0
  have hx : ((s.extract p (p + 3)).toList == [239, 191, 189]) = decide (((ns s).drop p).take 3 = [239, 191, 189]) := by
    rw [toList_beq, ns_extract, List.drop_take, Nat.add_sub_cancel_left]; rfl
  rw [hx, decide_eq_true_eq, decide_eq_false_iff_not, ← hf]
  have ht : ((rd ((ns s).drop p)).2.2 = 0 ∧ (rd ((ns s).drop p)).1 = 65533) → 3 ≤ ((ns s).drop p).length := by
    intro h
    have := congrArg List.length (hf.1 h)
    simp at this ⊢; omega
  have hg := (goodB_iff _).1 (rd_good hb h0)
  generalize rd ((ns s).drop p) = T at *
  by_cases hw : T.2.2 = 0
  · rw [d1 hw]
    simp only
    refine ⟨?_, fun _ => ⟨hw, by first | trivial | rfl⟩⟩
    rintro ⟨h1, h2⟩
    have h3 : T.1 = 65533 := by omega
    have := ht ⟨hw, h3⟩
    rcases h2 with h2 | h2
    · omega
    · exact absurd ⟨hw, h3⟩ h2
  · rw [d2 hw]
    refine ⟨fun _ => ⟨hw, rfl⟩, ?_⟩
    rintro (h1 | ⟨h1, h2⟩)
    · exact absurd rfl h1
    · exact absurd h2.1 hw

theorem mend_yes {s : ByteArray} {pos k : Nat} {ok : Bool} (hp : pos < s.size) (hV : Hid (validOf (ns s) = (ok && validOf ((ns s).drop pos)))) (h : (rd ((ns s).drop pos)).2.2 = 0 ∧ k = (rd ((ns s).drop pos)).2.1) :
    Hid (validOf (ns s) = (ok && validOf ((ns s).drop (pos + k)))) ∧ pos + k ≤ s.size ∧ 1 ≤ k := by
  have hl : ((ns s).drop pos).length = s.size - pos := by simp [ns_length]
  have hs := rd_size ((ns s).drop pos) (by omega)
  refine ⟨?_, by omega, by omega⟩
  unfold Hid at hV ⊢
  rw [hV, valid_cons (b := (ns s).drop pos) (by omega), h.1, ← h.2, List.drop_drop]
  simp
theorem mend_no {s : ByteArray} {pos k : Nat} {ok : Bool} (hp : pos < s.size) (hV : Hid (validOf (ns s) = (ok && validOf ((ns s).drop pos)))) (h : (rd ((ns s).drop pos)).2.2 ≠ 0 ∧ k = 1) :
    Hid (validOf (ns s) = (false && validOf ((ns s).drop (pos + k)))) ∧ pos + k ≤ s.size ∧ 1 ≤ k := by
  have hl : ((ns s).drop pos).length = s.size - pos := by simp [ns_length]
  refine ⟨?_, by omega, by omega⟩
  unfold Hid at hV ⊢
  rw [hV, valid_cons (b := (ns s).drop pos) (by omega)]
  simp [h.1]
theorem iterPos_at (w : World) (k : Nat) (s : ByteArray) (pos : Nat) (hk : w.heap[k]? = some (.stringIter s pos)) : w.iterPos k = pos := by unfold World.iterPos; rw [hk]

end Go.Proofs.Ytoccmpaonicnnaa
