/- sieveref09.Open; sievelaw09.lives. -/
import Derived.Test.YtoccmpaonicnnaaRefOpen
import Derived.Test.YtoccmpaonicnnaaScanF
namespace Go.Proofs.Ytoccmpaonicnnaa
open Go.RowKit
set_option linter.unusedVariables false
set_option linter.unusedSimpArgs false

theorem refopen_any (s : ByteArray) (w : World) (hx : s.size ≤ 9223372036854775807) :
    Calls Try.prog 9 #[.string s] w fun e w' => e = .returned (.tuple #[.int .i64 (openOf (ns s)).1, .int .i64 (openOf (ns s)).2]) ∧ w = w' := by
  have hle := fun w0 => letters_any s ⟨#[100, 111, 99, 116, 121, 112, 101]⟩ w0 hx (by decide)
  have e7 : ns (⟨#[100, 111, 99, 116, 121, 112, 101]⟩ : ByteArray) = docL := by decide +kernel
  have e8 : (⟨#[100, 111, 99, 116, 121, 112, 101]⟩ : ByteArray).size = 7 := rfl
  rw [e7, e8] at hle
  have hl := ns_length s
  by_cases h2 : 2 ≤ s.size
  · have h1 : decide ((2 : Int) ≤ (s.size : Int)) = true := by simp; omega
    have hsl := fun w0 => run_slice_string_to (P := Try.prog) w0 9 s 2 h2 Try.underlying9
    have hq : ((s.extract 0 2).toList == [45, 45]) = preB [45, 45] (ns s) := by
      have := ext_beq s ⟨#[45, 45]⟩ h2
      have e2 : ns (⟨#[45, 45]⟩ : ByteArray) = [45, 45] := by decide +kernel
      rw [e2] at this
      rw [← this]
      have e3 : (⟨#[45, 45]⟩ : ByteArray).toList = [45, 45] := ByteArray.toList_mk [45, 45]
      rw [e3]; rfl
    cases hd : preB [45, 45] (ns s)
    · rw [hd] at hq
      cases hq2 : decide (lowL ((ns s).take 7) = docL)
      · rw [hq2] at hle
        have ho : openOf (ns s) = (2, 0) := by unfold openOf; rw [if_neg (by simp [hd]), if_neg (of_decide_eq_false hq2)]
        have HO := Lib.hid ho
        have HL := Lib.hid hle
        clear e7 e8 hd hq2 ho hle hl
        go_enter Try.func9, Try.ntmps9
        go_wp2_with (go_at_call 22; refine (HL.out _).mono ?_; rintro e w' ⟨rfl, rfl⟩)
        go_ret2
        exact ⟨ret_22 HO.out.symm, rfl⟩
      · rw [hq2] at hle
        have ho : openOf (ns s) = (1, 7) := by unfold openOf; rw [if_neg (by simp [hd]), if_pos (of_decide_eq_true hq2)]
        have HO := Lib.hid ho
        have HL := Lib.hid hle
        clear e7 e8 hd hq2 ho hle hl
        go_enter Try.func9, Try.ntmps9
        go_wp2_with (go_at_call 22; refine (HL.out _).mono ?_; rintro e w' ⟨rfl, rfl⟩)
        go_ret2
        exact ⟨ret_22 HO.out.symm, rfl⟩
    · rw [hd] at hq
      have ho : openOf (ns s) = (0, 2) := by unfold openOf; rw [if_pos hd]
      have HO := Lib.hid ho
      clear e7 e8 hd ho hle hl
      go_enter Try.func9, Try.ntmps9
      go_wp2
      go_ret2
      exact ⟨ret_22 HO.out.symm, rfl⟩
  · have h1 : decide ((2 : Int) ≤ (s.size : Int)) = false := by simp; omega
    have hf : decide (lowL ((ns s).take 7) = docL) = false := by
      rw [decide_eq_false_iff_not]; intro h; have := congrArg List.length h; simp [lowL, docL] at this; omega
    rw [hf] at hle
    have ho : openOf (ns s) = (2, 0) := by
      unfold openOf
      rw [if_neg (by unfold preB; rw [decide_eq_true_eq, prefix_iff]; simp; omega), if_neg (of_decide_eq_false hf)]
    have HO := Lib.hid ho
    have HL := Lib.hid hle
    clear e7 e8 ho hle hl hf
    go_enter Try.func9, Try.ntmps9
    go_wp2_with (go_at_call 22; refine (HL.out _).mono ?_; rintro e w' ⟨rfl, rfl⟩)
    go_ret2
    exact ⟨ret_22 HO.out.symm, rfl⟩

theorem lives9_whole : wholeR 0 (ns ⟨#[97, 45, 45, 33, 62, 98]⟩) = ([97], 5, true) := by decide +kernel
theorem lives9_open : openOf (ns ⟨#[68, 111, 99, 84, 121, 112, 101, 32, 104, 116, 109, 108]⟩) = (1, 7) := by decide +kernel
set_option maxHeartbeats 1000000 in
theorem lives9_yes (w : World) : Calls Try.prog 10 #[] w fun e w' => e = .returned (.bool true) ∧ Below w.heap.size w w' := by
  have h1 := fun w0 => whole_any 0 ⟨#[97, 45, 45, 33, 62, 98]⟩ w0 (by decide) (by decide) (by decide)
  rw [lives9_whole] at h1
  have h2 := fun w0 => open_any' ⟨#[68, 111, 99, 84, 121, 112, 101, 32, 104, 116, 109, 108]⟩ w0 (by decide)
  rw [lives9_open] at h2
  have h3 : ((strOfNums [97]).toList == [97]) = true := by decide +kernel
  have H1 := Lib.hid h1
  have H2 := Lib.hid h2
  clear h1 h2
  go_enter Try.func10, Try.ntmps10
  go_wp2_with (first
    | (go_at_call 11; refine (H1.out _).mono ?_; rintro e w1 ⟨rfl, hb1⟩)
    | (go_at_call 8; refine (H2.out _).mono ?_; rintro e w2 ⟨rfl, hb2⟩))
  go_ret
  exact ⟨rfl, hb1.trans (hb2.mono hb1.size)⟩

end Go.Proofs.Ytoccmpaonicnnaa
