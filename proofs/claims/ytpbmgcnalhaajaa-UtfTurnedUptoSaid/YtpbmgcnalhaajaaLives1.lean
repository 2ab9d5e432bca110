/- sievelaw01.lives: the document's examples are as it says. -/
import Derived.Test.YtpbmgcnalhaajaaUtfB
import Derived.Test.YtpbmgcnalhaajaaUtfC
import Derived.Test.YtpbmgcnalhaajaaRefA
namespace Go.Proofs.Ytpbmgcnalhaajaa
open Go.RowKit
set_option linter.unusedVariables false
set_option linter.unusedSimpArgs false

theorem run_lit (k : IntKind) (w : World) (xs : List Int) (e : TypeId) : Run k (w.alloc (.cells (xs.map (Value.int k)).toArray e)) w.heap.size 0 xs := by
  intro j x hj
  rw [World.cell?_alloc_at _ _ _ _ rfl]
  simp [hj]
theorem slI_lit (k : IntKind) (w : World) (xs : List Int) (e : TypeId) : SlI k (w.heap.size + 1) (w.alloc (.cells (xs.map (Value.int k)).toArray e)) (.slice (some ⟨w.heap.size, 0, none⟩) xs.length xs.length) xs :=
  SlI.run (run_lit k w xs e) (by omega) (Nat.le_refl _)

theorem byt_of_all {xs : List Int} (h : xs.all (fun x => decide (0 ≤ x) && decide (x ≤ 255)) = true) : Byt xs := by
  intro j x hj
  have := List.all_eq_true.1 h x (List.mem_of_getElem? hj)
  simpa using this

theorem lives_runes : runesOf [97, 255, 226, 130, 98] = [97, 65533, 65533, 98] := by decide +kernel
theorem lives_tail : tailOf [226, 130] = 2 := by decide +kernel
theorem lives_width : widthOf 1114111 = 4 := by decide +kernel

set_option maxHeartbeats 1000000 in
theorem lives_yes (w : World) : Calls Try.prog 12 #[] w fun e w' => e = .returned (.bool true) ∧ Below w.heap.size w w' := by
  go_enter Try.func12, Try.ntmps12
  go_wp2_with fail
  refine (runes_any _ _ [97, 255, 226, 130, 98] _ (slI_lit .u8 w _ _) (by simp) (byt_of_all (by decide +kernel)) (by simp)).mono ?_
  rintro e w1 ⟨u, rfl, hown, hb1⟩
  rw [lives_runes] at hown
  have hB1 : Below w.heap.size w w1 := ((Below.refl _ w).alloc (Nat.le_refl _) _).trans (hb1.mono (by simp))
  have HO := Lib.hid hown
  clear hown hb1
  go_wp2_with fail
  refine (same_yes (w1.heap.size + 1) _ _ [97, 65533, 65533, 98] _ ((slI_of_owns HO.out (Nat.le_refl _)).below ((Below.refl w1.heap.size w1).alloc (Nat.le_refl _) _) (Nat.le_refl _) |>.mono (by omega)) (slI_lit .i32 w1 _ _) (by simp)).mono ?_
  rintro e w2 ⟨rfl, hd2⟩
  have hB2 : Below w.heap.size w w2 := hB1.trans ((((Below.refl w1.heap.size w1).alloc (Nat.le_refl _) _).trans (hd2.below _)).mono hB1.size)
  clear hd2
  go_wp2_with fail
  refine (tail_any _ _ [226, 130] _ (slI_lit .u8 w2 _ _) (byt_of_all (by decide +kernel)) (by simp)).mono ?_
  rw [lives_tail]
  rintro e w3 ⟨rfl, hd3⟩
  have hB3 : Below w.heap.size w w3 := hB2.trans ((((Below.refl w2.heap.size w2).alloc (Nat.le_refl _) _).trans (hd3.below _)).mono hB2.size)
  clear hd3
  go_wp2_with fail
  refine (width_any _ _).mono ?_
  rw [lives_width]
  rintro e w4 ⟨rfl, rfl⟩
  go_wp2_with fail
  go_ret
  exact ⟨rfl, hB3⟩

end Go.Proofs.Ytpbmgcnalhaajaa
