/- input.Plain and the reference's; (*at).move. -/
import Derived.Test.YtbdkiiaiadbmbaaInP
import Derived.Test.YtbdkiiaiadbmbaaUtfC
import Derived.Test.YtbdkiiaiadbmbaaFrm
namespace Go.Proofs.Ytbdkiiaiadbmbaa
open Go.RowKit
set_option linter.unusedVariables false
set_option linter.unusedSimpArgs false

theorem and_fffe (a : Nat) : a &&& 65534 = a % 65536 - a % 2 := by
  have h1 : (a &&& 65534) / 2 = (a / 2) % 32768 := by
    rw [Nat.and_div_two]
    exact Nat.and_two_pow_sub_one_eq_mod (a / 2) 15
  have h2 : (a &&& 65534) % 2 = 0 := by
    have := Nat.and_mod_two_pow (a := a) (b := 65534) (n := 1)
    simpa using this
  omega
theorem i32_fffe (x : Int) (h0 : 0 ≤ x) (h1 : x < 2147483648) : bits .and .i32 x 65534 = x % 65536 - x % 2 := by
  obtain ⟨a, rfl⟩ := Int.eq_ofNat_of_zero_le h0
  have := (bits_nat .i32 31 (by decide) wraps_i32 a 65534 (by omega) (by omega)).1
  rw [show (65534 : Int) = ((65534 : Nat) : Int) from rfl, this, and_fffe]
  omega

theorem plain_is (r V : Int) (w : World) (hV : Hid (plainOf r = V)) :
    Calls Try.prog 9 #[.int .i32 r] w fun e w' => e = .returned (.int .i32 V) ∧ w = w' := by
  have hv := hV.out
  unfold plainOf at hv
  by_cases h1 : r = 13
  · subst h1
    obtain rfl : (10 : Int) = V := by simpa using hv
    go_enter Try.func9, Try.ntmps9
    go_wp2
    go_ret
    exact ⟨rfl, rfl⟩
  rw [if_neg h1] at hv
  have b1 : (r == 13) = false := by simp [h1]
  by_cases h2 : r = 9
  · subst h2
    obtain rfl : (9 : Int) = V := by simpa using hv
    go_enter Try.func9, Try.ntmps9
    go_wp2
    go_ret
    exact ⟨rfl, rfl⟩
  by_cases h3 : r = 10
  · subst h3
    obtain rfl : (10 : Int) = V := by simpa using hv
    go_enter Try.func9, Try.ntmps9
    go_wp2
    go_ret
    exact ⟨rfl, rfl⟩
  by_cases h4 : r = 12
  · subst h4
    obtain rfl : (12 : Int) = V := by simpa using hv
    go_enter Try.func9, Try.ntmps9
    go_wp2
    go_ret
    exact ⟨rfl, rfl⟩
  rw [if_neg (by simp [h2, h3, h4])] at hv
  have b2 : (r == 9) = false := by simp [h2]
  have b3 : (r == 10) = false := by simp [h3]
  have b4 : (r == 12) = false := by simp [h4]
  clear h1 h2 h3 h4
  by_cases h5 : r < 32
  · rw [if_pos (.inl h5)] at hv
    subst hv
    go_enter Try.func9, Try.ntmps9
    go_wp2
    go_ret
    exact ⟨rfl, rfl⟩
  by_cases h6 : 127 ≤ r ∧ r ≤ 159
  · rw [if_pos (.inr (.inl h6))] at hv
    obtain ⟨g1, g2⟩ := h6
    subst hv
    go_enter Try.func9, Try.ntmps9
    go_wp2
    go_ret
    exact ⟨rfl, rfl⟩
  have g5 : 32 ≤ r := by omega
  have g6 : r < 127 ∨ 159 < r := by omega
  by_cases h7 : 55296 ≤ r ∧ r ≤ 57343
  · rw [if_pos (.inr (.inr (.inl h7)))] at hv
    obtain ⟨g1, g2⟩ := h7
    have g6 : 159 < r := by omega
    subst hv
    clear h5 h6
    go_enter Try.func9, Try.ntmps9
    go_wp2
    go_ret
    exact ⟨rfl, rfl⟩
  have g7 : r < 55296 ∨ 57343 < r := by omega
  by_cases h8 : 1114111 < r
  · rw [if_pos (.inr (.inr (.inr (.inl h8))))] at hv
    have g6 : 159 < r := by omega
    have g7 : 57343 < r := by omega
    subst hv
    clear h5 h6 h7
    go_enter Try.func9, Try.ntmps9
    go_wp2
    go_ret
    exact ⟨rfl, rfl⟩
  have g8 : r ≤ 1114111 := by omega
  by_cases h9 : 64976 ≤ r ∧ r ≤ 65007
  · rw [if_pos (.inr (.inr (.inr (.inr (.inl h9)))))] at hv
    obtain ⟨g1, g2⟩ := h9
    have g6 : 159 < r := by omega
    have g7 : 57343 < r := by omega
    subst hv
    clear h5 h6 h7
    go_enter Try.func9, Try.ntmps9
    go_wp2
    go_ret
    exact ⟨rfl, rfl⟩
  have g9 : r < 64976 ∨ 65007 < r := by omega
  have hbit := i32_fffe r (by omega) (by omega)
  by_cases h10 : 65534 ≤ r % 65536
  · rw [if_pos (.inr (.inr (.inr (.inr (.inr h10)))))] at hv
    have hb1 : (bits .and .i32 r 65534 == 65534) = true := by rw [hbit]; simp; omega
    have g6 : 159 < r := by omega
    have g7 : 57343 < r := by omega
    have g9 : 65007 < r := by omega
    subst hv
    clear h5 h6 h7 h8 h9 h10 hbit
    go_enter Try.func9, Try.ntmps9
    go_wp2
    go_ret
    exact ⟨rfl, rfl⟩
  rw [if_neg (by omega)] at hv
  have hb1 : (bits .and .i32 r 65534 == 65534) = false := by rw [hbit]; simp; omega
  subst hv
  clear h5 h6 h7 h8 h9 h10 hbit
  rcases g6 with g6 | g6 <;> rcases g7 with g7 | g7 <;> rcases g9 with g9 | g9
  all_goals first | (exfalso; omega) | skip
  all_goals
    go_enter Try.func9, Try.ntmps9
    go_wp2
    go_ret
    exact ⟨rfl, rfl⟩
theorem plain_any (r : Int) (w : World) : Calls Try.prog 9 #[.int .i32 r] w fun e w' => e = .returned (.int .i32 (plainOf r)) ∧ w = w' := plain_is r _ w (Lib.hid rfl)

set_option maxHeartbeats 1000000 in
theorem plainR_any (r : Int) (w : World) (h0 : -2147483648 ≤ r) (h1 : r ≤ 2147483647) :
    Calls Try.prog 10 #[.int .i32 r] w fun e w' => e = .returned (.int .i32 (plainOf r)) ∧ w = w' := by
  obtain ⟨V, hV⟩ : ∃ V, plainOf r = V := ⟨_, rfl⟩
  rw [hV]
  have hv := hV
  unfold plainOf at hv
  clear hV
  by_cases h1 : r = 13
  · subst h1
    obtain rfl : (10 : Int) = V := by simpa using hv
    go_enter Try.func10, Try.ntmps10
    go_wp2
    go_ret
    exact ⟨rfl, rfl⟩
  have b1 : (r == 13) = false := by simp [h1]
  have hch := char_any r w
  cases hg : goodB r
  all_goals
    rw [hg] at hch
    have HG := Lib.hid hg
    have HV := Lib.hid hv
    clear hv hg
    go_enter Try.func10, Try.ntmps10
    go_wp2_with (go_at_call 33; refine hch.mono ?_; rintro e w' ⟨rfl, rfl⟩)
    all_goals go_ret
    all_goals (refine ⟨ret_intx ?_, rfl⟩)
    all_goals (have hv := HV.out)
    all_goals (have hg := HG.out)
    all_goals (first | rw [goodB_iff] at hg | rw [goodB_false] at hg)
    all_goals (simp at *)
    all_goals (rw [← hv])
    all_goals ((repeat' split) <;> first | omega | (exfalso; omega))

end Go.Proofs.Ytbdkiiaiadbmbaa
