/- utf.Tail, good, Width; sieveref01.Char, Width. -/
import Derived.Test.YtbdkiiaiadbmbaaRead
import Derived.Test.YtbdkiiaiadbmbaaSl
namespace Go.Proofs.Ytbdkiiaiadbmbaa
open Go.RowKit
set_option linter.unusedVariables false
set_option linter.unusedSimpArgs false

theorem ret_boolx {a b : Bool} (h : a = b) : Ending.returned (.bool a) = .returned (.bool b) := by rw [h]
theorem ret_intx {k : IntKind} {a b : Int} (h : a = b) : Ending.returned (.int k a) = .returned (.int k b) := by rw [h]

set_option maxHeartbeats 400000 in
theorem tail_any (B : Nat) (v : Value) (xs : List Int) (w : World) (hs : SlI .u8 B w v xs) (hb : Byt xs) (hx : xs.length ≤ 1099511627776) :
    Calls Try.prog 42 #[v] w fun e w' => e = .returned (.int .i64 (tailOf xs)) ∧ Drew w w' := by
  obtain ⟨ao, cap, rfl, hc, hn, hr⟩ := hs
  go_enter Try.func42, Try.ntmps42
  go_wp2
  go_loopw [3] (fun i wr => ∃ p : Nat, i = .int .i64 p ∧ p ≤ xs.length ∧ tailOf xs = tl (pcsAt xs p) ∧ Drew w wr) (fun i _ => xs.length - (intOf i).toNat)
  case atStart => exact ⟨0, rfl, Nat.zero_le _, rfl, Drew.refl w⟩
  case round =>
    obtain ⟨p, rfl, hp, htl, q, rfl⟩ := hrel
    by_cases hlt : p < xs.length
    · obtain ⟨b, off, rfl, hbn, hrun⟩ := hr (by omega)
      have hl : 0 < (xs.drop p).length := by simp; omega
      have hsz := rd_size (xs.drop p) hl
      have hlen : (xs.drop p).length = xs.length - p := by simp
      have hread := read_any b (off + p) (cap - p) (xs.drop p) (w.drewN q) (hrun.drop p) (hb.drop p) (by omega) hl
      rw [hlen] at hread
      rw [pcsAt_cons xs p hlt] at htl
      obtain ⟨h1n, hnl, hn4, h5n, h6n⟩ := hsz
      clear h5n h6n
      rw [hlen] at hnl
      have HR := Lib.hid hread
      clear hread hlen hl
      generalize hrd : rd (xs.drop p) = T at *
      clear hrd
      obtain ⟨r, k, wt⟩ := T
      simp only [tl] at *
      by_cases hw : wt = 2
      · subst hw
        rw [if_pos rfl] at htl
        have HT := Lib.hid htl
        clear htl
        go_wp2_with (go_at_call 50; refine HR.out.mono ?_; rintro e w' ⟨rfl, q2, rfl⟩)
        go_ret
        exact ⟨ret_intx (by rw [HT.out]), _, rfl⟩
      · rw [if_neg hw] at htl
        have HT := Lib.hid htl
        have hw2 : (wt == 2) = false := beq_eq_false_iff_ne.2 hw
        clear htl
        go_wp2_with (go_at_call 50; refine HR.out.mono ?_; rintro e w' ⟨rfl, q2, rfl⟩)
        go_roundw
        case rel => exact ⟨p + k, by go_num, by omega, HT.out, _, rfl⟩
        case measure => simp [intOf]; omega
    · obtain rfl : p = xs.length := by omega
      rw [pcsAt_end _ _ (Nat.le_refl _)] at htl
      have HT := Lib.hid htl
      clear htl
      go_wp2
      go_ret
      exact ⟨ret_intx (by rw [HT.out]; rfl), q, rfl⟩

theorem char_any (r : Int) (w : World) : Calls Try.prog 33 #[.int .i32 r] w fun e w' => e = .returned (.bool (goodB r)) ∧ w = w' := by
  go_enter Try.func33, Try.ntmps33
  go_wp2
  all_goals go_ret
  all_goals (refine ⟨ret_boolx ?_, rfl⟩)
  all_goals (symm; first | (rw [goodB_iff]; omega) | (rw [goodB_false]; omega) | (simp only [goodB]; simp [*]))

theorem widthR_any (r : Int) (w : World) : Calls Try.prog 54 #[.int .i32 r] w fun e w' => e = .returned (.int .i64 (widthOf r)) ∧ w = w' := by
  cases hg : goodB r
  all_goals
    have HG := Lib.hid hg
    have hgo := char_any r w
    rw [hg] at hgo
    clear hg
    go_enter Try.func54, Try.ntmps54
    go_wp2_with (go_at_call 33; refine hgo.mono ?_; rintro e w' ⟨rfl, rfl⟩)
    all_goals go_ret
    all_goals (refine ⟨ret_intx ?_, rfl⟩; simp only [widthOf, HG.out])
    all_goals ((repeat' split) <;> first | rfl | omega | contradiction)

end Go.Proofs.Ytbdkiiaiadbmbaa
