/- sievelaw01.units says yes. -/
import Derived.Test.YtpbmgcnalhaajaaRefA
namespace Go.Proofs.Ytpbmgcnalhaajaa
open Go.RowKit
set_option linter.unusedVariables false
set_option linter.unusedSimpArgs false

set_option maxHeartbeats 400000 in
theorem units_yes (B : Nat) (va vb : Value) (xs : List Int) (w : World) (ha : SlI .u16 B w va xs) (hb : SlI .u16 B w vb xs) (hx : xs.length ≤ 9223372036854775807) :
    Calls Try.prog 29 #[va, vb] w fun e w' => e = .returned (.bool true) ∧ Drew w w' := by
  obtain ⟨ao, ca, rfl, hca, hna, hra⟩ := ha
  obtain ⟨bo, cb, rfl, hcb, hnb, hrb⟩ := hb
  go_enter Try.func29, Try.ntmps29
  go_wp2
  go_loopw [13] (fun i wr => ∃ k : Nat, i = .int .i64 k ∧ k ≤ xs.length ∧ Drew w wr) (fun i _ => xs.length - (intOf i).toNat)
  case atStart => exact ⟨0, rfl, Nat.zero_le _, Drew.refl w⟩
  case round =>
    obtain ⟨k, rfl, hk, q, rfl⟩ := hrel
    by_cases hkn : k < xs.length
    · obtain ⟨b1, o1, rfl, hb1, r1⟩ := hra (by omega)
      obtain ⟨b2, o2, rfl, hb2, r2⟩ := hrb (by omega)
      obtain ⟨x, hxk⟩ := get_of_lt xs hkn
      have c1 := r1 k x hxk
      have c2 := r2 k x hxk
      clear hxk
      go_wp2
      go_quiet (fail)
      go_wp2
      go_roundw
      case rel => exact ⟨k + 1, by go_num, by omega, _, rfl⟩
      case measure => simp [intOf]; omega
    · go_wp2
      go_ret
      exact ⟨rfl, q, rfl⟩

end Go.Proofs.Ytpbmgcnalhaajaa
