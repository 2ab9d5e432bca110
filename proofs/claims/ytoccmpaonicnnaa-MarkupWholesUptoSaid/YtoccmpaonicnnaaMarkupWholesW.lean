/- sievelaw09.MarkupWholes: the walk. -/
import Derived.Test.YtoccmpaonicnnaaLives9
import Derived.Test.YtoccmpaonicnnaaRefWholeB
namespace Go.Proofs.Ytoccmpaonicnnaa.markupWholes
open Go.RowKit
set_option linter.unusedVariables false
set_option linter.unusedSimpArgs false

set_option maxHeartbeats 1000000 in
theorem walk_good (k : Int) (s : ByteArray) (w : World) (k0 : 0 ≤ k) (k2 : k ≤ 2) (hx : s.size ≤ 274877906944) :
    Calls Try.prog 4 #[.int .i64 k, .string s] w fun e w' => e = .returned (.bool true) ∧ Below w.heap.size w w' := by
  have h1 := fun w0 => whole_any k s w0 k0 k2 hx
  have h2 := fun w0 => refwhole_any k s w0 k0 k2 hx
  unfold WholeEnd at h2
  generalize strOfNums (wholeR k (ns s)).1 = t at *
  generalize (wholeR k (ns s)).2.1 = n at *
  generalize (wholeR k (ns s)).2.2 = c at *
  have H1 := Lib.hid h1
  have H2 := Lib.hid h2
  clear h1 h2
  go_enter Try.func4, Try.ntmps4
  go_wp2_with (first
    | (go_at_call 11; refine (H1.out _).mono ?_; rintro e w1 ⟨rfl, hb1⟩)
    | (go_at_call 12; refine (H2.out _).mono ?_; rintro e w2 ⟨rfl, hb2⟩)
    | (go_at_call 10; refine (lives9_yes _).mono ?_; rintro e w3 ⟨rfl, hb3⟩))
  go_ret
  exact ⟨rfl, bnext (bnext hb1 hb2) hb3⟩

theorem walk_bad (k : Int) (s : ByteArray) (w : World) (h : k < 0 ∨ 2 < k) :
    Calls Try.prog 4 #[.int .i64 k, .string s] w fun e w' => e = .returned (.bool true) ∧ Below w.heap.size w w' := by
  have h1 := fun w0 => whole_bad k s w0 h
  have h2 := fun w0 => refwhole_bad k s w0 h
  go_enter Try.func4, Try.ntmps4
  go_wp2_with (first
    | (go_at_call 11; refine (h1 _).mono ?_; rintro e w1 ⟨rfl, hb1⟩)
    | (go_at_call 12; refine (h2 _).mono ?_; rintro e w2 ⟨rfl, rfl⟩)
    | (go_at_call 10; refine (lives9_yes _).mono ?_; rintro e w3 ⟨rfl, hb3⟩))
  go_ret
  exact ⟨rfl, bnext hb1 hb3⟩

theorem walk (k : Int) (s : ByteArray) (w : World) (hx : s.size ≤ 274877906944) :
    Calls Try.prog 4 #[.int .i64 k, .string s] w fun e w' => e = .returned (.bool true) ∧ Below w.heap.size w w' := by
  by_cases h : 0 ≤ k ∧ k ≤ 2
  · exact walk_good k s w h.1 h.2 hx
  · exact walk_bad k s w (by omega)

end Go.Proofs.Ytoccmpaonicnnaa.markupWholes
