/- utf.Mend, sieveref01.Text: the text of runes. -/
import Derived.Test.YtbdkiiaiadbmbaaUtfB
import Derived.Test.YtbdkiiaiadbmbaaUtfC
import Derived.Test.YtbdkiiaiadbmbaaReads1
import Derived.Test.YtbdkiiaiadbmbaaStr
import Derived.Test.YtbdkiiaiadbmbaaMendP
import Derived.Test.YtbdkiiaiadbmbaaBytes
namespace Go.Proofs.Ytbdkiiaiadbmbaa
open Go.RowKit
set_option linter.unusedVariables false
set_option linter.unusedSimpArgs false

theorem ret_str {a b : ByteArray} (h : a = b) : Ending.returned (.string a) = .returned (.string b) := by rw [h]

theorem reftext_any (B : Nat) (v : Value) (xs : List Int) (w : World) (hs : SlI .i32 B w v xs) (hB : B ≤ w.heap.size) (hx : xs.length ≤ 274877906944) :
    Calls Try.prog 36 #[v] w fun e w' => e = .returned (.string (strOfNums (encs xs))) ∧ Below w.heap.size w w' := by
  go_enter Try.func36, Try.ntmps36
  go_wp2_with fail
  refine (refbytes_any B v xs _ hs hB hx).mono ?_
  rintro e w1 ⟨u, rfl, hown, hb1⟩
  have hcv := run_conv_sl (P := Try.prog) (slI_of_owns hown (Nat.le_refl _)) 25 9 5 Try.underlying25 Try.underlying5 Try.underlying9
  have HO := Lib.hid hown
  clear hown
  go_wp2
  go_ret
  exact ⟨rfl, hb1⟩

/-- the round's test, and what it says -/
theorem mend_step {s : ByteArray} {p : Nat} (hp : p < s.size) :
    (((Utf8.decode s p).1 : Int) = 65533 ∧ ((s.size : Int) - p < 3 ∨ ((s.extract p (p + 3)).toList == [239, 191, 189]) = false) → (rd ((ns s).drop p)).2.2 ≠ 0 ∧ (Utf8.decode s p).2 = 1) ∧
    (¬ ((Utf8.decode s p).1 : Int) = 65533 ∨ ((3 ≤ (s.size : Int) - p) ∧ ((s.extract p (p + 3)).toList == [239, 191, 189]) = true) → (rd ((ns s).drop p)).2.2 = 0 ∧ (Utf8.decode s p).2 = (rd ((ns s).drop p)).2.1) := by
  obtain ⟨d1, d2⟩ := decode_rd s p hp
  have hl : ((ns s).drop p).length = s.size - p := by simp [ns_length]
  have hb : Byts ((ns s).drop p) := (ns_byts s).drop p
  have h0 : 0 < ((ns s).drop p).length := by omega
  have hf := rd_fffd hb h0
  have hx : ((s.extract p (p + 3)).toList == [239, 191, 189]) = decide (((ns s).drop p).take 3 = [239, 191, 189]) := by
    rw [toList_beq, ns_extract, List.drop_take, Nat.add_sub_cancel_left]; rfl
  rw [hx, decide_eq_true_eq, decide_eq_false_iff_not, ← hf]
  have ht : ((rd ((ns s).drop p)).2.2 = 0 ∧ (rd ((ns s).drop p)).1 = 65533) → 3 ≤ ((ns s).drop p).length := by
    intro h
    have := congrArg List.length (hf.1 h)
    simp at this ⊢; omega
  have hg := (goodB_iff _).1 (rd_good hb h0)
  generalize rd ((ns s).drop p) = T at *
  by_cases hw : T.2.2 = 0
  · rw [d1 hw]
    simp only
    refine ⟨?_, fun _ => ⟨hw, by first | trivial | rfl⟩⟩
    rintro ⟨h1, h2⟩
    have h3 : T.1 = 65533 := by omega
    have := ht ⟨hw, h3⟩
    rcases h2 with h2 | h2
    · omega
    · exact absurd ⟨hw, h3⟩ h2
  · rw [d2 hw]
    refine ⟨fun _ => ⟨hw, rfl⟩, ?_⟩
    rintro (h1 | ⟨h1, h2⟩)
    · exact absurd rfl h1
    · exact absurd h2.1 hw

theorem mend_yes {s : ByteArray} {pos k : Nat} {ok : Bool} (hp : pos < s.size) (hV : Hid (validOf (ns s) = (ok && validOf ((ns s).drop pos)))) (h : (rd ((ns s).drop pos)).2.2 = 0 ∧ k = (rd ((ns s).drop pos)).2.1) :
    Hid (validOf (ns s) = (ok && validOf ((ns s).drop (pos + k)))) ∧ pos + k ≤ s.size ∧ 1 ≤ k := by
  have hl : ((ns s).drop pos).length = s.size - pos := by simp [ns_length]
  have hs := rd_size ((ns s).drop pos) (by omega)
  refine ⟨?_, by omega, by omega⟩
  unfold Hid at hV ⊢
  rw [hV, valid_cons (b := (ns s).drop pos) (by omega), h.1, ← h.2, List.drop_drop]
  simp
theorem mend_no {s : ByteArray} {pos k : Nat} {ok : Bool} (hp : pos < s.size) (hV : Hid (validOf (ns s) = (ok && validOf ((ns s).drop pos)))) (h : (rd ((ns s).drop pos)).2.2 ≠ 0 ∧ k = 1) :
    Hid (validOf (ns s) = (false && validOf ((ns s).drop (pos + k)))) ∧ pos + k ≤ s.size ∧ 1 ≤ k := by
  have hl : ((ns s).drop pos).length = s.size - pos := by simp [ns_length]
  refine ⟨?_, by omega, by omega⟩
  unfold Hid at hV ⊢
  rw [hV, valid_cons (b := (ns s).drop pos) (by omega)]
  simp [h.1]
theorem iterPos_at (w : World) (k : Nat) (s : ByteArray) (pos : Nat) (hk : w.heap[k]? = some (.stringIter s pos)) : w.iterPos k = pos := by unfold World.iterPos; rw [hk]

set_option maxHeartbeats 1000000 in
theorem mend_any (s : ByteArray) (w : World) (hx : s.size ≤ 274877906944) :
    Calls Try.prog 37 #[.string s] w fun e w' => e = .returned (.string (strOfNums (mendOf (ns s)))) ∧ Below w.heap.size w w' := by
  have hsl := ns_length s
  go_enter Try.func37, Try.ntmps37
  go_wp2
  go_loopw [3] (fun v wr => ∃ (pos : Nat) (ok : Bool), v = .bool ok ∧ pos ≤ s.size ∧ wr.heap[w.heap.size]? = some (.stringIter s pos) ∧ Below w.heap.size w wr ∧ Hid (validOf (ns s) = (ok && validOf ((ns s).drop pos)))) (fun _ wr => s.size - wr.iterPos w.heap.size)
  case atStart => exact ⟨0, true, rfl, Nat.zero_le _, World.iter_heap w s 0, (Below.refl _ w).alloc (Nat.le_refl _) _, by simp [Hid]⟩
  case round =>
    obtain ⟨pos, ok, rfl, hpos, hit, hbw, hV⟩ := hrel
    by_cases hp : pos < s.size
    · have hnx : ∀ ty, (Instr.next (.pointer (some ⟨w.heap.size, 0, none⟩)) true ty).run Try.prog wr = _ := fun ty => Lib.run_next_any_at wr w.heap.size s pos ty hit hp
      obtain ⟨m1, m2⟩ := mend_step hp
      have hD := decode_le s pos
      have hit2 := Lib.iterAt_heap wr w.heap.size s pos (pos + (Utf8.decode s pos).2) hit
      have hbw2 := Lib.below_iterAt hbw (k := w.heap.size) (Nat.le_refl _) s (pos + (Utf8.decode s pos).2)
      have HIP := Lib.hid (iterPos_at _ _ _ _ hit)
      have HIP2 := Lib.hid (iterPos_at _ _ _ _ hit2)
      have M1 := Lib.hid m1
      have M2 := Lib.hid m2
      have HI := Lib.hid hit
      have HI2 := Lib.hid hit2
      clear m1 m2 hit hit2 hsl
      generalize hdd : Utf8.decode s pos = D at *
      clear hdd
      obtain ⟨c, k⟩ := D
      simp only at *
      by_cases h1 : (c : Int) = 65533
      · have hb1 : ((c : Int) == 65533) = true := by simpa using h1
        by_cases h2 : (s.size : Int) - pos < 3
        · have N := mend_no hp hV (M1.out ⟨h1, .inl h2⟩)
          go_wp2
          go_roundw
          case rel => exact ⟨pos + k, false, rfl, N.2.1, HI2.out, hbw2, N.1⟩
          case measure => rw [HIP.out, HIP2.out]; have := N.2.2; omega
        · have hb3 : decide ((s.size : Int) - pos < 3) = false := by simpa using h2
          have h4 : (pos : Int) + 3 ≤ (s.size : Int) := by omega
          have h5 := fun w0 => run_slice_string (P := Try.prog) w0 9 s .i64 .i64 (pos : Int) ((pos : Int) + 3) Try.underlying9 (by omega) (by omega) h4
          rw [show ((pos : Int) + 3).toNat = pos + 3 from by omega, Int.toNat_natCast] at h5
          cases hq : ((s.extract pos (pos + 3)).toList == [239, 191, 189])
          · have N := mend_no hp hV (M1.out ⟨h1, .inr hq⟩)
            go_wp2
            go_roundw
            case rel => exact ⟨pos + k, false, rfl, N.2.1, HI2.out, hbw2, N.1⟩
            case measure => rw [HIP.out, HIP2.out]; have := N.2.2; omega
          · have N := mend_yes hp hV (M2.out (.inr ⟨by omega, hq⟩))
            go_wp2
            go_roundw
            case rel => exact ⟨pos + k, ok, rfl, N.2.1, HI2.out, hbw2, N.1⟩
            case measure => rw [HIP.out, HIP2.out]; have := N.2.2; omega
      · have hb1 : ((c : Int) == 65533) = false := by simpa using h1
        have N := mend_yes hp hV (M2.out (.inl h1))
        go_wp2
        go_roundw
        case rel => exact ⟨pos + k, ok, rfl, N.2.1, HI2.out, hbw2, N.1⟩
        case measure => rw [HIP.out, HIP2.out]; have := N.2.2; omega
    · have hnx : ∀ ty, (Instr.next (.pointer (some ⟨w.heap.size, 0, none⟩)) true ty).run Try.prog wr = _ := fun ty => Lib.run_next_end_at wr w.heap.size s pos ty hit hp
      have hend : validOf (ns s) = ok := by
        have := hV
        unfold Hid at this
        rw [this, List.drop_eq_nil_of_le (by omega), valid_nil, Bool.and_true]
      cases ok
      · have hby := fun w0 => run_bytes_of_string (P := Try.prog) w0 9 25 5 s Try.underlying9 Try.underlying25 Try.underlying5
        have HE := Lib.hid hend
        have hsd : wr.drew.heap.size = wr.heap.size := rfl
        have hs1 := slI_bytesRow wr.drew s (grownCap wr s.size 0 5) (grownCap_ge wr s.size 0 5) 5 ((bytesRow s (grownCap wr s.size 0 5)).size, (bytesRow s (grownCap wr s.size 0 5)).size + 1)
        have hB1 : Below w.heap.size w (wr.drew.alloc (.cells (bytesRow s (grownCap wr s.size 0 5)) 5 ((bytesRow s (grownCap wr s.size 0 5)).size, (bytesRow s (grownCap wr s.size 0 5)).size + 1))) := hbw.drew.alloc hbw.size _
        have HS1 := Lib.hid hs1
        have HSL := Lib.hid hsl
        clear hend hV hs1 hsl
        go_wp2_with fail
        trace_state
        refine (runes_any _ _ _ _ HS1.out (by simp) (ns_byts s).byt (by rw [HSL.out]; omega)).mono ?_
        rintro e w3 ⟨u, rfl, hown3, hb3⟩
        have hcv := run_conv_runes (P := Try.prog) (slI_of_owns hown3 (Nat.le_refl _)) 69 9 21 Try.underlying69 Try.underlying21 Try.underlying9
        have HO := Lib.hid hown3
        clear hown3
        go_wp2
        go_ret
        exact ⟨rfl, hB1.trans (hb3.mono hB1.size)⟩
      · have hm : s = strOfNums (mendOf (ns s)) := by rw [mend_valid (ns_byts s) hend, str_ns]
        have HM := Lib.hid hm
        clear hm hend hV
        go_wp2
        go_ret
        exact ⟨ret_str HM.out, hbw⟩

end Go.Proofs.Ytbdkiiaiadbmbaa
