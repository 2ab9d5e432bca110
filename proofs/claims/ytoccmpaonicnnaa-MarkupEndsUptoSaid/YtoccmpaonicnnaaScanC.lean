/- markup.Scanner: open, Text, End, Put, New. -/
import Derived.Test.YtoccmpaonicnnaaScanB
import Derived.Test.YtoccmpaonicnnaaSub
namespace Go.Proofs.Ytoccmpaonicnnaa
open Go.RowKit
set_option linter.unusedVariables false
set_option linter.unusedSimpArgs false

theorem open_other (D : Nat) (k : Int) (tv : Value) (t : Int) (o : Bool) (w : World) (hD : ScAt w D k tv t o) (hk : k ≠ 0) :
    Calls Try.prog 31 #[.pointer (some ⟨D, 0, none⟩)] w fun e w' => e = .returned (.int .i64 0) ∧ Below w.heap.size w w' := by
  obtain ⟨c0, c1, c2, c3, c4, f1, f2, f4⟩ := hD.cells
  have q : (k != 0) = true := by simpa using hk
  go_enter Try.func31, Try.ntmps31
  go_wp2
  go_ret
  exact ⟨rfl, Below.refl _ _⟩

theorem dashes_0 (w : World) : (Instr.index 66 (.agg #[.string ⟨#[45, 45, 33]⟩, .string ⟨#[45, 45]⟩, .string ⟨#[45]⟩]) (.int .i64 0)).run Try.prog w = .ok (.string ⟨#[45, 45, 33]⟩) w := by kernel_rfl
theorem dashes_1 (w : World) : (Instr.index 66 (.agg #[.string ⟨#[45, 45, 33]⟩, .string ⟨#[45, 45]⟩, .string ⟨#[45]⟩]) (.int .i64 1)).run Try.prog w = .ok (.string ⟨#[45, 45]⟩) w := by kernel_rfl
theorem dashes_2 (w : World) : (Instr.index 66 (.agg #[.string ⟨#[45, 45, 33]⟩, .string ⟨#[45, 45]⟩, .string ⟨#[45]⟩]) (.int .i64 2)).run Try.prog w = .ok (.string ⟨#[45]⟩) w := by kernel_rfl

set_option maxHeartbeats 2000000 in
theorem open_zero (D : Nat) (tv : Value) (t : Int) (o : Bool) (l : List Int) (w : World) (hD : ScAt w D 0 tv t o) (hl : SlI .i32 w.heap.size w tv l) (hx : l.length ≤ 1099511627776) :
    Calls Try.prog 31 #[.pointer (some ⟨D, 0, none⟩)] w fun e w' => e = .returned (.int .i64 (openN 0 l : Nat)) ∧ Below w.heap.size w w' := by
  obtain ⟨c0, c1, c2, c3, c4, f1, f2, f4⟩ := hD.cells
  have h0 := dashes_0
  have h1 := dashes_1
  have h2 := dashes_2
  go_enter Try.func31, Try.ntmps31
  go_wp2
  go_loopw [11] (fun i wr => ∃ j : Nat, i = .int .i64 j ∧ j ≤ 3 ∧ ScAt wr D 0 tv t o ∧ SlI .i32 wr.heap.size wr tv l ∧ Below w.heap.size w wr ∧ Hid ((1 ≤ j → endsL [45, 45, 33] l = false) ∧ (2 ≤ j → endsL [45, 45] l = false) ∧ (3 ≤ j → endsL [45] l = false))) (fun i _ => 3 - (intOf i).toNat)
  case atStart => exact ⟨0, rfl, by omega, hD, hl, Below.refl _ _, Lib.hid ⟨by omega, by omega, by omega⟩⟩
  case round =>
    obtain ⟨j, rfl, hj, hDr, hlr, hbr, hA⟩ := hrel
    clear c0 c1 c2 c3 c4 f1 f2 f4 hD hl
    obtain ⟨c0, c1, c2, c3, c4, f1, f2, f4⟩ := hDr.cells
    rcases (show j = 0 ∨ j = 1 ∨ j = 2 ∨ j = 3 by omega) with rfl | rfl | rfl | rfl
    · cases ha : endsL [45, 45, 33] l
      · have HE := Lib.hid ha
        clear ha
        go_wp2_with (go_at_call 39; refine (ends_is D 0 _ t o l _ [45, 45, 33] _ _ hDr hlr hx lit_ddx (by simp) HE).mono ?_; rintro e w1 ⟨rfl, ⟨hD1, hl1⟩, hb1⟩)
        go_roundw
        case rel => exact ⟨1, by go_num, by omega, hD1, hl1, bnext hbr hb1, Lib.hid ⟨fun _ => (by first | trivial | exact HE.out), by omega, by omega⟩⟩
        case measure => simp [intOf]
      · have HE := Lib.hid ha
        have hr : openN 0 l = 3 := by simp [openN, ha]
        have HR := Lib.hid hr
        clear ha hr
        go_wp2_with (go_at_call 39; refine (ends_is D 0 _ t o l _ [45, 45, 33] _ _ hDr hlr hx lit_ddx (by simp) HE).mono ?_; rintro e w1 ⟨rfl, ⟨hD1, hl1⟩, hb1⟩)
        go_ret
        exact ⟨ret_intx (by rw [HR.out]; rfl), bnext hbr hb1⟩
    · cases ha : endsL [45, 45] l
      · have HE := Lib.hid ha
        clear ha
        go_wp2_with (go_at_call 39; refine (ends_is D 0 _ t o l _ [45, 45] _ _ hDr hlr hx lit_dd (by simp) HE).mono ?_; rintro e w1 ⟨rfl, ⟨hD1, hl1⟩, hb1⟩)
        go_roundw
        case rel => exact ⟨2, by go_num, by omega, hD1, hl1, bnext hbr hb1, Lib.hid ⟨fun _ => hA.out.1 (by omega), fun _ => (by first | trivial | exact HE.out), by omega⟩⟩
        case measure => simp [intOf]
      · have HE := Lib.hid ha
        have hr : openN 0 l = 2 := by simp [openN, ha, hA.out.1]
        have HR := Lib.hid hr
        clear ha hr
        go_wp2_with (go_at_call 39; refine (ends_is D 0 _ t o l _ [45, 45] _ _ hDr hlr hx lit_dd (by simp) HE).mono ?_; rintro e w1 ⟨rfl, ⟨hD1, hl1⟩, hb1⟩)
        go_ret
        exact ⟨ret_intx (by rw [HR.out]; rfl), bnext hbr hb1⟩
    · cases ha : endsL [45] l
      · have HE := Lib.hid ha
        clear ha
        go_wp2_with (go_at_call 39; refine (ends_is D 0 _ t o l _ [45] _ _ hDr hlr hx lit_d (by simp) HE).mono ?_; rintro e w1 ⟨rfl, ⟨hD1, hl1⟩, hb1⟩)
        go_roundw
        case rel => exact ⟨3, by go_num, by omega, hD1, hl1, bnext hbr hb1, Lib.hid ⟨fun _ => hA.out.1 (by omega), fun _ => hA.out.2.1 (by omega), fun _ => (by first | trivial | exact HE.out)⟩⟩
        case measure => simp [intOf]
      · have HE := Lib.hid ha
        have hr : openN 0 l = 1 := by simp [openN, ha, hA.out.1, hA.out.2.1]
        have HR := Lib.hid hr
        clear ha hr
        go_wp2_with (go_at_call 39; refine (ends_is D 0 _ t o l _ [45] _ _ hDr hlr hx lit_d (by simp) HE).mono ?_; rintro e w1 ⟨rfl, ⟨hD1, hl1⟩, hb1⟩)
        go_ret
        exact ⟨ret_intx (by rw [HR.out]; rfl), bnext hbr hb1⟩
    · have hr : openN 0 l = 0 := by simp [openN, hA.out.1, hA.out.2.1, hA.out.2.2]
      have HR := Lib.hid hr
      clear hr
      go_wp2
      go_ret
      exact ⟨ret_intx (by rw [HR.out]; rfl), hbr⟩

theorem open_any (D : Nat) (k : Int) (tv : Value) (t : Int) (o : Bool) (l : List Int) (w : World) (hD : ScAt w D k tv t o) (hl : SlI .i32 w.heap.size w tv l) (hx : l.length ≤ 1099511627776) :
    Calls Try.prog 31 #[.pointer (some ⟨D, 0, none⟩)] w fun e w' => e = .returned (.int .i64 (openN k l : Nat)) ∧ Below w.heap.size w w' := by
  by_cases hk : k = 0
  · subst hk; exact open_zero D tv t o l w hD hl hx
  · have : openN k l = 0 := by unfold openN; rw [if_pos hk]
    rw [this]; exact open_other D k tv t o w hD hk

theorem slI_to {k : IntKind} {B : Nat} {w : World} {ao : Option Addr} {n cap : Nat} {xs : List Int} (h : SlI k B w (.slice ao n cap) xs) {m : Nat} (hm : m ≤ xs.length) : SlI k B w (.slice ao m cap) (xs.take m) := by
  obtain ⟨ao', cap', he, q1, q2, q3⟩ := h
  injection he with e1 e2 e3
  subst e1 e3
  refine ⟨ao, cap, by simp; omega, by simp; omega, q2, fun h0 => ?_⟩
  rw [List.length_take] at h0
  obtain ⟨b, off, rfl, r1, r2⟩ := q3 (by omega)
  refine ⟨b, off, rfl, r1, fun j x hj => r2 j x ?_⟩
  rw [List.getElem?_take] at hj
  split at hj
  · exact hj
  · cases hj

/-- what it says -/
def textOf (k t : Int) (o : Bool) (l : List Int) : List Int := if k = 1 then [] else encs (l.take (l.length - (if o = true then t.toNat else openN k l)))

theorem text_doc (D : Nat) (tv : Value) (t : Int) (o : Bool) (w : World) (hD : ScAt w D 1 tv t o) :
    Calls Try.prog 16 #[.pointer (some ⟨D, 0, none⟩)] w fun e w' => e = .returned (.string ByteArray.empty) ∧ Below w.heap.size w w' := by
  obtain ⟨c0, c1, c2, c3, c4, f1, f2, f4⟩ := hD.cells
  go_enter Try.func16, Try.ntmps16
  go_wp2
  go_ret
  exact ⟨rfl, Below.refl _ _⟩

set_option maxHeartbeats 1000000 in
theorem text_over (D : Nat) (k : Int) (tv : Value) (t : Nat) (l : List Int) (w : World) (hD : ScAt w D k tv (t : Int) true) (hk : k ≠ 1) (hl : SlI .i32 w.heap.size w tv l) (ht : t ≤ l.length) (hx : l.length ≤ 1099511627776) :
    Calls Try.prog 16 #[.pointer (some ⟨D, 0, none⟩)] w fun e w' => e = .returned (.string (strOfNums (encs (l.take (l.length - t))))) ∧ Below w.heap.size w w' := by
  obtain ⟨c0, c1, c2, c3, c4, f1, f2, f4⟩ := hD.cells
  have q : (k == 1) = false := by simpa using hk
  obtain ⟨i0, hi, hz0, hz1, hz2⟩ := info_parts Try.infoI32
  have hce : Try.prog.cellsOf 21 = 1 := by kernel_rfl
  have hl0 := hl
  obtain ⟨ao, cap, rfl, hcap, hn, hr⟩ := hl0
  have hsl := fun w0 => run_sub_to (P := Try.prog) 32 21 Try.underlying32 i0 hi hce ao l.length cap (l.length - t) (by omega) w0
  have hcv := fun n : Nat => run_conv_runes (P := Try.prog) (w := w.drewN n) (v := .slice ao (l.length - t) cap) (xs := l.take (l.length - t)) (slI_to (hl.below (below_drewN (Below.refl w.heap.size w) n) (Nat.le_refl _)) (by omega)) 32 9 21 Try.underlying32 Try.underlying21 Try.underlying9
  have e1 : IntKind.i64.wrap ((l.length : Int) - (t : Int)) = ((l.length - t : Nat) : Int) := by rw [IntWalk.i64_in _ (by omega)]; omega
  clear hn hr
  go_enter Try.func16, Try.ntmps16
  go_wp2
  go_quiet (fail)
  go_wp2
  go_ret
  exact ⟨rfl, below_drewN (Below.refl _ _) _⟩

end Go.Proofs.Ytoccmpaonicnnaa
