/- utf.Valid. -/
import Derived.Test.YtpbmgcnalhaajaaReads1
namespace Go.Proofs.Ytpbmgcnalhaajaa
open Go.RowKit
set_option linter.unusedVariables false
set_option linter.unusedSimpArgs false

set_option maxHeartbeats 400000 in
theorem valid_any (B : Nat) (v : Value) (xs : List Int) (w : World) (hs : SlI .u8 B w v xs) (hb : Byt xs) (hx : xs.length ≤ 1099511627776) :
    Calls Try.prog 41 #[v] w fun e w' => e = .returned (.bool (validOf xs)) ∧ Drew w w' := by
  obtain ⟨ao, cap, rfl, hc, hn, hr⟩ := hs
  go_enter Try.func41, Try.ntmps41
  go_wp2
  go_step3
  go_wp2
  go_step3
  go_wp2
  go_loopw [3, 4] (fun u i wr => u = .bool true ∧ ∃ p : Nat, i = .int .i64 p ∧ p ≤ xs.length ∧ validOf xs = vd (pcsAt xs p) ∧ Drew w wr) (fun _ i _ => xs.length - (intOf i).toNat)
  case atStart => exact ⟨rfl, 0, rfl, Nat.zero_le _, rfl, Drew.refl w⟩
  case round =>
    obtain ⟨rfl, p, rfl, hp, htl, q, rfl⟩ := hrel
    by_cases hlt : p < xs.length
    · obtain ⟨b, off, rfl, hbn, hrun⟩ := hr (by omega)
      have hl : 0 < (xs.drop p).length := by simp; omega
      have hsz := rd_size (xs.drop p) hl
      have hlen : (xs.drop p).length = xs.length - p := by simp
      have hread := read_any b (off + p) (cap - p) (xs.drop p) (w.drewN q) (hrun.drop p) (hb.drop p) (by omega) hl
      rw [hlen] at hread
      rw [pcsAt_cons xs p hlt] at htl
      obtain ⟨h1n, hnl, hn4, h5n, h6n⟩ := hsz
      clear h5n h6n
      rw [hlen] at hnl
      have HR := Lib.hid hread
      clear hread hlen hl
      generalize hrd : rd (xs.drop p) = T at *
      clear hrd
      obtain ⟨r, k, wt⟩ := T
      simp only [vd, List.all_cons] at *
      by_cases hw : wt = 0
      · subst hw
        simp only [decide_true, Bool.true_and] at htl
        have HT := Lib.hid htl
        clear htl
        go_wp2_with (go_at_call 49; refine HR.out.mono ?_; rintro e w' ⟨rfl, q2, rfl⟩)
        go_roundw
        case rel => exact ⟨rfl, p + k, by go_num, by omega, HT.out, _, rfl⟩
        case measure => simp [intOf]; omega
      · have hw2 : (wt != 0) = true := by simpa using hw
        have hw3 : decide (wt = 0) = false := by simpa using hw
        rw [hw3] at htl
        simp only [Bool.false_and] at htl
        have HT := Lib.hid htl
        clear htl hw3
        go_wp2_with (go_at_call 49; refine HR.out.mono ?_; rintro e w' ⟨rfl, q2, rfl⟩)
        rw [Exit.noGoto_ret]
        go_ret
        exact ⟨ret_boolx (by rw [HT.out]), _, rfl⟩
    · obtain rfl : p = xs.length := by omega
      rw [pcsAt_end _ _ (Nat.le_refl _)] at htl
      have HT := Lib.hid htl
      clear htl
      go_wp2
      rw [Exit.noGoto_ret]
      go_ret
      exact ⟨ret_boolx (by rw [HT.out]; rfl), q, rfl⟩

end Go.Proofs.Ytpbmgcnalhaajaa
