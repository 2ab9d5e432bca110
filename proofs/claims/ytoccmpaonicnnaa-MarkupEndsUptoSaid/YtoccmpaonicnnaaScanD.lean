/- markup.Scanner: Text before the end, End, New, Put. -/
import Derived.Test.YtoccmpaonicnnaaScanC
namespace Go.Proofs.Ytoccmpaonicnnaa
open Go.RowKit
set_option linter.unusedVariables false
set_option linter.unusedSimpArgs false

set_option maxHeartbeats 1000000 in
theorem text_open (D : Nat) (k : Int) (tv : Value) (t : Int) (l : List Int) (w : World) (hD : ScAt w D k tv t false) (hk : k ≠ 1) (hl : SlI .i32 w.heap.size w tv l) (hx : l.length ≤ 1099511627776) :
    Calls Try.prog 16 #[.pointer (some ⟨D, 0, none⟩)] w fun e w' => e = .returned (.string (strOfNums (encs (l.take (l.length - openN k l))))) ∧ Below w.heap.size w w' := by
  obtain ⟨c0, c1, c2, c3, c4, f1, f2, f4⟩ := hD.cells
  have q : (k == 1) = false := by simpa using hk
  have hol := openN_le k l
  obtain ⟨i0, hi, hz0, hz1, hz2⟩ := info_parts Try.infoI32
  have hce : Try.prog.cellsOf 21 = 1 := by kernel_rfl
  go_enter Try.func16, Try.ntmps16
  go_wp2_with fail
  refine (open_any D k tv t false l _ hD hl hx).mono ?_
  rintro e w2 ⟨rfl, hb2⟩
  have hl2 := hl.step hb2
  have hD2 := hD.below hb2 hD.lt
  clear c0 c1 c2 c3 c4 f1 f2 f4 hD hl
  obtain ⟨c0, c1, c2, c3, c4, f1, f2, f4⟩ := hD2.cells
  have hl0 := hl2
  obtain ⟨ao, cap, rfl, hcap, hn, hr⟩ := hl0
  obtain ⟨m, hm⟩ : ∃ m, openN k l = m := ⟨_, rfl⟩
  rw [hm] at hol ⊢
  have HM := Lib.hid hm
  clear hm
  have hsl := fun w0 => run_sub_to (P := Try.prog) 32 21 Try.underlying32 i0 hi hce ao l.length cap (l.length - m) (by omega) w0
  have hcv := fun n : Nat => run_conv_runes (P := Try.prog) (w := w2.drewN n) (v := .slice ao (l.length - m) cap) (xs := l.take (l.length - m)) (slI_to (hl2.below (below_drewN (Below.refl w2.heap.size w2) n) (Nat.le_refl _)) (by omega)) 32 9 21 Try.underlying32 Try.underlying21 Try.underlying9
  have e1 : IntKind.i64.wrap ((l.length : Int) - (m : Int)) = ((l.length - m : Nat) : Int) := by rw [IntWalk.i64_in _ (by omega)]; omega
  clear hn hr
  go_wp2
  go_quiet (fail)
  go_wp2
  go_ret
  exact ⟨ret_str (by rw [HM.out]), below_drewN hb2 _⟩

theorem put_over (D : Nat) (k : Int) (tv : Value) (t r : Int) (w : World) (hD : ScAt w D k tv t true) :
    Calls Try.prog 14 #[.pointer (some ⟨D, 0, none⟩), .int .i32 r] w fun e w' => e = .returned (.tuple #[.bool false, .int .i64 3]) ∧ w = w' := by
  go_enter Try.func14, Try.ntmps14
  go_wp2
  go_step3
  go_wp2_with (go_at_call 27; refine (sready_is D k tv t true 3 _ hD (Lib.hid rfl)).mono ?_; rintro e w' ⟨rfl, rfl⟩)
  rw [Exit.noGoto_ret]
  go_ret2
  exact ⟨rfl, rfl⟩
theorem end_over (D : Nat) (k : Int) (tv : Value) (t : Int) (w : World) (hD : ScAt w D k tv t true) :
    Calls Try.prog 17 #[.pointer (some ⟨D, 0, none⟩)] w fun e w' => e = .returned (.int .i64 3) ∧ w = w' := by
  go_enter Try.func17, Try.ntmps17
  go_wp2_with (go_at_call 27; refine (sready_is D k tv t true 3 _ hD (Lib.hid rfl)).mono ?_; rintro e w' ⟨rfl, rfl⟩)
  go_ret
  exact ⟨rfl, rfl⟩

set_option maxHeartbeats 1000000 in
theorem end_any (D base : Nat) (k : Int) (tv : Value) (t : Int) (l : List Int) (w : World) (hD : ScAt w D k tv t false) (hown : w.ownsRow base 21 1 tv l.length (l.map (Value.int .i32))) (hDb : D < base) (hx : l.length ≤ 1099511627776) :
    Calls Try.prog 17 #[.pointer (some ⟨D, 0, none⟩)] w fun e w' => e = .returned (.int .i64 0) ∧ ScAt w' D k tv (openN k l : Nat) true ∧ w'.ownsRow base 21 1 tv l.length (l.map (Value.int .i32)) ∧ Frm (fun i => i = D) w w' := by
  have hl := slI_of_owns hown (Nat.le_refl _)
  have HO := Lib.hid hown
  clear hown
  go_enter Try.func17, Try.ntmps17
  go_wp2_with (go_at_call 27; refine (sready_is D k tv t false 0 _ hD (Lib.hid rfl)).mono ?_; rintro e w' ⟨rfl, rfl⟩)
  refine (open_any D k tv t false l _ hD hl hx).mono ?_
  rintro e w2 ⟨rfl, hb2⟩
  have hD2 := hD.below hb2 hD.lt
  have HO2 := Lib.hid (ownsRow_below HO.out hb2 (Nat.le_refl _))
  obtain ⟨c0, c1, c2, c3, c4, f1, f2, f4⟩ := hD2.cells
  have hD3 := hD2.set2 (openN k l : Nat)
  obtain ⟨g0, g1, g2, g3, g4, k1, k2, k4⟩ := hD3.cells
  go_wp2
  go_ret
  have hf : Frm (fun i => i = D) w2 ((w2.setCell ⟨D, 2, none⟩ (.int .i64 (openN k l : Nat))).setCell ⟨D, 4, none⟩ (.bool true)) :=
    Frm.trans (T := fun i => i = D) (Frm.setCell (S := fun i => i = D) w2 ⟨D, 2, none⟩ _ rfl) (Frm.setCell (S := fun i => i = D) _ ⟨D, 4, none⟩ _ rfl) (fun _ _ h => h)
  refine ⟨rfl, hD3.set4 true, ownsRow_frm HO2.out hf (fun k hk e => ?_), (Frm.of_below hb2).trans hf (fun _ _ h => h)⟩
  have := (HO2.out.lt k hk).1
  omega

theorem new_any (k : Int) (w : World) (h0 : 0 ≤ k) (h2 : k ≤ 2) :
    Calls Try.prog 13 #[.int .i64 k] w fun e w' => e = .returned (.tuple #[.pointer (some ⟨w.heap.size, 0, none⟩), .int .i64 0]) ∧ w' = w.alloc (.cells #[.int .i64 k, .slice none 0 0, .int .i64 0, .bool true, .bool false] 43) := by
  go_enter Try.func13, Try.ntmps13
  go_wp2
  go_ret2
  exact ⟨rfl, rfl⟩
theorem new_bad (k : Int) (w : World) (h : k < 0 ∨ 2 < k) :
    Calls Try.prog 13 #[.int .i64 k] w fun e w' => e = .returned (.tuple #[.pointer none, .int .i64 1]) ∧ w = w' := by
  rcases h with h | h
  · go_enter Try.func13, Try.ntmps13
    go_wp2
    go_ret2
    exact ⟨rfl, rfl⟩
  · have h' : ¬ k < 0 := by omega
    go_enter Try.func13, Try.ntmps13
    go_wp2
    go_ret2
    exact ⟨rfl, rfl⟩

theorem enc_fffd {r : Int} (h : goodB r = false ∨ r = 65533) : widthOf r = 3 ∧ fixR r = 65533 ∧ ((Utf8.encode r).toList == [239, 191, 189]) = true := by
  have e : fixR r = 65533 := by
    rcases h with h | rfl
    · simp [fixR, h]
    · rfl
  refine ⟨?_, e, ?_⟩
  · rcases h with h | rfl
    · simp [widthOf, h]
    · decide +kernel
  · rw [encode_enc, toList_beq, ns_str (encR_byts r), encR, e]; decide +kernel
theorem enc_other {r : Int} (h : goodB r = true) (hr : r ≠ 65533) : fixR r = r ∧ ((Utf8.encode r).toList == [239, 191, 189]) = false := by
  refine ⟨fixR_id h, ?_⟩
  rw [encode_enc, toList_beq, ns_str (encR_byts r), encR_good h, decide_eq_false_iff_not]
  intro e
  have h1 := rd_encC (c := r) [] h
  have h2 := rd_encC (c := 65533) [] rfl
  have h3 : encC 65533 = [239, 191, 189] := by decide +kernel
  rw [h3] at h2
  have e' : encC r = [239, 191, 189] := e
  rw [e', h2] at h1
  simp at h1
  exact hr h1.symm

end Go.Proofs.Ytoccmpaonicnnaa
