/- sievelaw03.InputNone: the walk. -/
import Derived.Test.YtbdkiiaiadbmbaaInNone
import Derived.Test.YtbdkiiaiadbmbaaStructEq
namespace Go.Proofs.Ytbdkiiaiadbmbaa.inputNone
open Go.RowKit
set_option linter.unusedVariables false
set_option linter.unusedSimpArgs false

set_option maxHeartbeats 2000000 in
theorem walk (v : Value) (w : World) : Calls Try.prog 6 #[v] w fun e w' => e = .returned (.bool true) ∧ Below w.heap.size w w' := by
  obtain ⟨W0, hW0⟩ : ∃ W0, (w.alloc (.cells #[.int .i64 0, .int .i64 0, .int .i64 0] 34)).alloc (.cells #[.int .i64 0, .int .i64 0, .int .i64 0, .slice none 0 0, .bool false, .bool false] 45) = W0 := ⟨_, rfl⟩
  have hsz0 : W0.heap.size = w.heap.size + 2 := by rw [← hW0]; simp
  have hb0 : Below w.heap.size w W0 := by rw [← hW0]; exact ((Below.refl _ w).alloc (Nat.le_refl _) _).alloc (by simp) _
  have h4 : W0.cell? ⟨w.heap.size + 1, 4, none⟩ = some (.bool false) := by
    rw [← hW0]
    rw [show w.heap.size + 1 = (w.alloc (.cells #[.int .i64 0, .int .i64 0, .int .i64 0] 34)).heap.size from by simp]
    exact World.cell?_alloc_mark (w.alloc (.cells #[.int .i64 0, .int .i64 0, .int .i64 0] 34)) #[.int .i64 0, .int .i64 0, .int .i64 0, .slice none 0 0, .bool false, .bool false] 45 (0, 0) 4
  have hn : ∀ j : Nat, j < 3 → W0.cell? ⟨w.heap.size, j, none⟩ = some (.int .i64 0) := by
    intro j hj
    rw [← hW0, ((Below.refl (w.alloc (.cells #[.int .i64 0, .int .i64 0, .int .i64 0] 34)).heap.size _).alloc (Nat.le_refl _) _).cell (p := ⟨w.heap.size, j, none⟩) (by simp)]
    rw [World.cell?_alloc_mark]
    rcases j with _ | _ | _ | j
    · rfl
    · rfl
    · rfl
    · omega
  have HW := Lib.hid hW0
  clear hW0
  go_enter Try.func6, Try.ntmps6
  go_wp2_with fail
  rw [HW.out]
  refine (sfeed_nil v _).mono ?_
  rintro e w' ⟨rfl, rfl⟩
  go_wp2_with fail
  refine (sfeed_zero _ v _ h4).mono ?_
  rintro e w' ⟨rfl, rfl⟩
  go_wp2_with fail
  refine (send_nil _).mono ?_
  rintro e w' ⟨rfl, rfl⟩
  go_wp2_with fail
  refine (send_zero _ _ h4).mono ?_
  rintro e w' ⟨rfl, rfl⟩
  go_wp2_with fail
  have hl : ∀ W, Grew W0 W → W.cell? ⟨w.heap.size, 0, none⟩ = some (.int .i64 0) ∧ W.cell? ⟨w.heap.size, 1, none⟩ = some (.int .i64 0) ∧ W.cell? ⟨w.heap.size, 2, none⟩ = some (.int .i64 0) := fun W hG =>
    ⟨(hG.below.cell (p := ⟨w.heap.size, 0, none⟩) (by show w.heap.size < W0.heap.size; omega)).trans (hn 0 (by omega)), (hG.below.cell (p := ⟨w.heap.size, 1, none⟩) (by show w.heap.size < W0.heap.size; omega)).trans (hn 1 (by omega)), (hG.below.cell (p := ⟨w.heap.size, 2, none⟩) (by show w.heap.size < W0.heap.size; omega)).trans (hn 2 (by omega))⟩
  have hz : ∀ W, Grew W0 W → Calls Try.prog 23 #[.pointer (some ⟨w.heap.size + 1, 0, none⟩)] W fun e w' => e = .returned (.agg #[.int .i64 0, .int .i64 0, .int .i64 0]) ∧ Below W.heap.size W w' := fun W hG =>
    splace_zero _ W ((hG.below.cell (p := ⟨w.heap.size + 1, 4, none⟩) (by show w.heap.size + 1 < W0.heap.size; omega)).trans h4) (by have := hG.below.size; omega)
  have HL := Lib.hid hl
  have HZ := Lib.hid hz
  clear hl hz hn
  refine wp_region_class (Grew W0) (by kernel_rfl) (by kernel_rfl) (Grew.drawn W0) ?_
  iterate 26 go_big_quiet_step ((exact fun _ => rfl))
  go_big_quiet_step ((intro hG; exact hG.calls (splace_nil _)))
  go_big_quiet_want
  refine quiet_run (ops := #[]) (.agg #[.int .i64 0, .int .i64 0, .int .i64 0]) (fun W hG => ?_) ?_
  · obtain ⟨l0, l1, l2⟩ := HL.out W hG
    simp [go_sem, execOp, l0, l1, l2]
  go_simp
  go_big_quiet_on
  go_big_quiet_want
  refine quiet_run (ops := #[]) (.bool true) (fun W hG => ?_) ?_
  · have e1 := eql_place 0 0 0 0 0 0 W
    have e2 := fun x y => guard_place .eql x y #[.int .i64 0, .int .i64 0, .int .i64 0] #[.int .i64 0, .int .i64 0, .int .i64 0] W
    simp only [execOp, Sem.run_bind]
    simp [Act.eval, e1, e2, Result.andThen]
  go_simp
  go_big_quiet_on
  go_big_quiet_step ((exact fun _ => rfl))
  go_big_quiet_step ((exact fun _ => rfl))
  go_big_quiet_step ((intro hG; exact hG.calls (HZ.out _ hG)))
  go_big_quiet_want
  refine quiet_run (ops := #[]) (.agg #[.int .i64 0, .int .i64 0, .int .i64 0]) (fun W hG => ?_) ?_
  · obtain ⟨l0, l1, l2⟩ := HL.out W hG
    simp [go_sem, execOp, l0, l1, l2]
  go_simp
  go_big_quiet_on
  go_big_quiet_want
  refine quiet_run (ops := #[]) (.bool true) (fun W hG => ?_) ?_
  · have e1 := eql_place 0 0 0 0 0 0 W
    have e2 := fun x y => guard_place .eql x y #[.int .i64 0, .int .i64 0, .int .i64 0] #[.int .i64 0, .int .i64 0, .int .i64 0] W
    simp only [execOp, Sem.run_bind]
    simp [Act.eval, e1, e2, Result.andThen]
  go_simp
  go_big_quiet_on
  go_big_quiet_step ((exact fun _ => rfl))
  go_big_quiet_step ((exact fun _ => rfl))
  go_big_quiet_step ((intro hG; exact hG.calls (lives3_yes _)))
  go_big_quiet_step ((exact fun _ => rfl))
  go_big_quiet_step ((exact fun _ => rfl))
  refine wpQuiet_nil ?_
  intro w11 hG
  go_wp2
  go_ret
  exact ⟨rfl, hb0.trans (hG.below.mono hb0.size)⟩

end Go.Proofs.Ytbdkiiaiadbmbaa.inputNone
