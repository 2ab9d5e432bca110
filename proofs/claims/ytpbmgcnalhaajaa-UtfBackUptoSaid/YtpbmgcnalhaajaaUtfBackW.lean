/- sievelaw01.UtfBack: the walk. -/
import Derived.Test.YtpbmgcnalhaajaaMend
import Derived.Test.YtpbmgcnalhaajaaValid
import Derived.Test.YtpbmgcnalhaajaaReads2
import Derived.Test.YtpbmgcnalhaajaaStep
import Derived.Test.YtpbmgcnalhaajaaGrow
namespace Go.Proofs.Ytpbmgcnalhaajaa.utfBack
open Go.RowKit
set_option linter.unusedVariables false
set_option linter.unusedSimpArgs false

theorem pcs_len (b : List Int) : (pcs b).length = (runesOf b).length := by simp [runesOf]
theorem quarter (b : List Int) : b.length ≤ 4 * (runesOf b).length := by
  refine pieces_ind (C := fun b => b.length ≤ 4 * (runesOf b).length) (by simp [runes_nil]) (fun b h0 ih => ?_) b
  have hs := rd_size b h0
  rw [runes_cons h0, List.length_cons]
  simp at ih
  omega

theorem sameB_any (B : Nat) (va vb : Value) (xs ys : List Int) (c : Bool) (w : World) (ha : SlI .u8 B w va xs) (hb : SlI .u8 B w vb ys) (hc : Hid (((strOfNums xs).toList == (strOfNums ys).toList) = c)) :
    Calls Try.prog 21 #[va, vb] w fun e w' => e = .returned (.bool c) ∧ w = w' := by
  have h1 := run_conv_sl (P := Try.prog) ha 23 9 5 Try.underlying23 Try.underlying5 Try.underlying9
  have h2 := run_conv_sl (P := Try.prog) hb 23 9 5 Try.underlying23 Try.underlying5 Try.underlying9
  go_enter Try.func21, Try.ntmps21
  go_wp2
  go_ret
  exact ⟨ret_boolx hc.out, rfl⟩

theorem same_valid {xs : List Int} (hb : Byts xs) : Hid (((strOfNums (encs (runesOf xs))).toList == (strOfNums xs).toList) = validOf xs) := by
  unfold Hid
  rw [toList_beq2, Bool.eq_iff_iff, decide_eq_true_eq, str_inj (encs_byts _) hb]
  exact mend_same_iff hb
theorem count_mend {xs : List Int} (hb : Byts xs) : (pcs (encs (runesOf xs))).length = (pcs xs).length := by
  rw [pcs_len, pcs_len]
  have := runes_mend hb
  unfold mendOf at this
  rw [this]
theorem fix_get {l : List Int} {i : Nat} {r : Int} (h : l[i]? = some r) : (runesOf (encs l))[i]? = some (fixR r) := by
  rw [runes_enc, List.getElem?_map, h]; rfl

set_option maxHeartbeats 4000000 in
theorem walk (v : Value) (xs : List Int) (u : Value) (us : List Int) (w : World) (hs : SlI .u8 w.heap.size w v xs) (hb : Byt xs) (hx : xs.length ≤ 1048576) (hu : SlI .i32 w.heap.size w u us) (hy : us.length ≤ 1048576) :
    Calls Try.prog 11 #[v, u] w fun e w' => e = .returned (.bool true) ∧ Below w.heap.size w w' := by
  have hplen := pcs_length xs
  have hq := quarter xs
  rw [← pcs_len] at hq
  have hN : (runesOf xs).length = (pcs xs).length := (pcs_len xs).symm
  have hel := encs_length (runesOf xs)
  have hem := encs_length us
  have hcm := count_mend hb.byts
  go_enter Try.func11, Try.ntmps11
  go_wp2_with fail
  refine (runes_any _ _ xs _ hs (Nat.le_refl _) hb (by omega)).mono ?_
  rintro e w1 ⟨rv, rfl, hown1, hb1⟩
  have hR1 : SlI .i32 w1.heap.size w1 rv (runesOf xs) := slI_of_owns hown1 (Nat.le_refl _)
  have hs1 := hs.step hb1
  have hu1 := hu.step hb1
  clear hown1
  go_wp2_with fail
  refine (utfbytes_any _ _ (runesOf xs) _ hR1 (Nat.le_refl _) (by omega)).mono ?_
  rintro e w2 ⟨av, rfl, hown2, hb2⟩
  have hB2 := bnext hb1 hb2
  have hA2 : SlI .u8 w2.heap.size w2 av (encs (runesOf xs)) := slI_of_owns hown2 (Nat.le_refl _)
  have hs2 := hs1.step hb2
  have hu2 := hu1.step hb2
  clear hown2 hR1 hb1 hb2 hs1 hu1
  go_wp2_with fail
  refine (sameB_any _ _ _ _ _ _ _ hA2 hs2 (same_valid hb.byts)).mono ?_
  rintro e w3 ⟨rfl, rfl⟩
  go_wp2_with fail
  refine (valid_any _ _ xs _ hs2 hb (by omega)).mono ?_
  rintro e w3 ⟨rfl, hd3⟩
  have hb3 := hd3.step
  have hB3 := bnext hB2 hb3
  have hA3 := hA2.step hb3
  have hs3 := hs2.step hb3
  have hu3 := hu2.step hb3
  clear hd3 hb3 hB2 hA2 hs2 hu2
  go_wp2_with fail
  refine (valid_any _ _ (encs (runesOf xs)) _ hA3 (encs_byts _).byt (by omega)).mono ?_
  rw [valid_enc]
  rintro e w4 ⟨rfl, hd4⟩
  have hb4 := hd4.step
  have hB4 := bnext hB3 hb4
  have hA4 := hA3.step hb4
  have hs4 := hs3.step hb4
  have hu4 := hu3.step hb4
  clear hd4 hb4 hB3 hA3 hs3 hu3
  go_wp2_with fail
  refine (count_any _ _ (encs (runesOf xs)) _ hA4 (Nat.le_refl _) (encs_byts _).byt (by omega)).mono ?_
  rw [hcm]
  rintro e w5 ⟨rfl, hb5⟩
  have hB5 := bnext hB4 hb5
  have hs5 := hs4.step hb5
  have hu5 := hu4.step hb5
  clear hb5 hB4 hA4 hs4 hu4
  go_wp2_with fail
  refine (count_any _ _ xs _ hs5 (Nat.le_refl _) hb (by omega)).mono ?_
  rintro e w6 ⟨rfl, hb6⟩
  have hB6 := bnext hB5 hb6
  have hs6 := hs5.step hb6
  have hu6 := hu5.step hb6
  clear hb6 hB5 hs5 hu5
  go_wp2_with fail
  refine (count_any _ _ xs _ hs6 (Nat.le_refl _) hb (by omega)).mono ?_
  rintro e w7 ⟨rfl, hb7⟩
  have hB7 := bnext hB6 hb7
  have hs7 := hs6.step hb7
  have hu7 := hu6.step hb7
  clear hb7 hB6 hs6 hu6
  have hshape := hs7
  obtain ⟨ao, cap, rfl, hcap, hao, hrun⟩ := hshape
  clear hcap hao hrun
  have t1 : decide (((pcs xs).length : Int) > (xs.length : Int)) = false := by simp; omega
  have t1' : decide ((xs.length : Int) < ((pcs xs).length : Int)) = false := by simp; omega
  go_wp2_with fail
  refine (count_any _ _ xs _ hs7 (Nat.le_refl _) hb (by omega)).mono ?_
  rintro e w8 ⟨rfl, hb8⟩
  have hB8 := bnext hB7 hb8
  have hs8 := hs7.step hb8
  have hu8 := hu7.step hb8
  clear hb8 hB7 hs7 hu7 hs hu
  have t2 : decide (4 * ((pcs xs).length : Int) < (xs.length : Int)) = false := by simp; omega
  have t2' : ¬ (4 * ((pcs xs).length : Int) < (xs.length : Int)) := by omega
  have HN := Lib.hid hN
  have HC := Lib.hid hcm
  clear hN hcm
  go_wp2_with fail
  refine (utfbytes_any _ _ us _ hu8 (Nat.le_refl _) (by omega)).mono ?_
  rintro e w9 ⟨bv, rfl, hown9, hb9⟩
  have hB9 := bnext hB8 hb9
  have hE9 : SlI .u8 w9.heap.size w9 bv (encs us) := slI_of_owns hown9 (Nat.le_refl _)
  have hs9 := hs8.step hb9
  have hu9 := hu8.step hb9
  clear hown9 hb9 hB8 hs8 hu8
  go_wp2_with fail
  refine (runes_any _ _ (encs us) _ hE9 (Nat.le_refl _) (encs_byts _).byt (by omega)).mono ?_
  have hol : (runesOf (encs us)).length = us.length := by rw [runes_enc]; simp
  rw [hol]
  rintro e w10 ⟨ov, rfl, hown10, hb10⟩
  have hB10 := bnext hB9 hb10
  have hO := hown10
  rw [← hol] at hO
  have hO10 : SlI .i32 w10.heap.size w10 ov (runesOf (encs us)) := slI_of_owns hO (Nat.le_refl _)
  have hs10 := hs9.step hb10
  have hu10 := hu9.step hb10
  clear hown10 hb10 hB9 hs9 hu9 hE9 hO
  obtain ⟨oa, oc, rfl, hoc, hon, hor⟩ := hO10
  rw [hol] at hoc hor ⊢
  obtain ⟨ua, uc, rfl, huc, hun, hur⟩ := hu10
  have HO := Lib.hid hor
  have HU := Lib.hid hur
  have HOL := Lib.hid hol
  clear hor hur hol hon hun
  go_wp2_with fail
  go_loop [55] (fun i => ∃ k : Nat, i = .int .i64 k ∧ k ≤ us.length) (fun i => us.length - (intOf i).toNat)
  case atStart => exact ⟨0, rfl, Nat.zero_le _⟩
  case round =>
    obtain ⟨k, rfl, hk⟩ := hrel
    by_cases hkn : k < us.length
    · obtain ⟨b, off, rfl, hlt, hrun⟩ := HU.out (by omega)
      obtain ⟨b2, off2, rfl, hlt2, hrun2⟩ := HO.out (by omega)
      obtain ⟨r, hr⟩ := get_of_lt us hkn
      have hc1 := hrun k r hr
      have hc2 := hrun2 k (fixR r) (fix_get hr)
      clear hr
      cases hg : goodB r
      · have e : fixR r = 65533 := by simp [fixR, hg]
        have hne : r ≠ 65533 := by intro h; rw [h] at hg; exact absurd hg (by decide)
        rw [e] at hc2
        have hb1 : ((65533 : Int) != r) = true := by rw [bne_iff_ne]; exact fun h => hne h.symm
        have HG := Lib.hid hg
        clear hg e hne
        go_wp2_with (go_at_call 32; refine (char_any r _).mono ?_; rw [HG.out]; rintro e w' ⟨rfl, rfl⟩)
        go_round
        case rel => exact ⟨k + 1, by go_num, by omega⟩
        case measure => simp [intOf]; omega
      · have e : fixR r = r := by simp [fixR, hg]
        rw [e] at hc2
        clear hg e
        go_wp2
        go_round
        case rel => exact ⟨k + 1, by go_num, by omega⟩
        case measure => simp [intOf]; omega
    · obtain rfl : k = us.length := by omega
      have M1 : ∀ w0 : World, Calls Try.prog 44 #[.string (strOfNums xs)] w0 fun e w' => e = .returned (.string (strOfNums (mendOf xs))) ∧ Below w0.heap.size w0 w' := fun w0 => by
        have := mend_any (strOfNums xs) w0 (by rw [strOfNums_size]; omega)
        rw [ns_str hb.byts] at this
        exact this
      have M2 : ∀ w0 : World, Calls Try.prog 44 #[.string (strOfNums (mendOf xs))] w0 fun e w' => e = .returned (.string (strOfNums (mendOf xs))) ∧ Below w0.heap.size w0 w' := fun w0 => by
        have := mend_any (strOfNums (mendOf xs)) w0 (by rw [strOfNums_size]; have := HN.out; unfold mendOf; omega)
        rw [ns_str (mendOf_byts xs), mend_mend] at this
        exact this
      have hcv : ∀ W, Grew w10 W → (convert 23 9 (.slice ao xs.length cap)).run Try.prog W = .ok (.string (strOfNums xs)) W := fun W hG =>
        run_conv_sl (P := Try.prog) (hs10.below hG (Nat.le_refl _)) 23 9 5 Try.underlying23 Try.underlying5 Try.underlying9
      have HM1 := Lib.hid M1
      have HM2 := Lib.hid M2
      have HCV := Lib.hid hcv
      clear M1 M2 hcv
      go_wp2
      refine wp_region_class (Grew w10) (by kernel_rfl) (by kernel_rfl) (Grew.drawn w10) ?_
      go_big_quiet_step ((exact fun _ => rfl))
      go_big_quiet_want
      refine quiet_convert 23 9 _ rfl (.string (strOfNums xs)) HCV.out ?_
      go_simp
      go_big_quiet_on
      go_big_quiet_step ((intro hG; exact hG.calls (HM1.out _)))
      go_big_quiet_step ((intro hG; exact hG.calls (HM2.out _)))
      go_big_quiet_step ((exact fun _ => rfl))
      go_big_quiet_want
      refine quiet_convert 23 9 _ rfl (.string (strOfNums xs)) HCV.out ?_
      go_simp
      go_big_quiet_on
      go_big_quiet_step ((intro hG; exact hG.calls (HM1.out _)))
      go_big_quiet_step ((exact fun _ => rfl))
      go_big_quiet_step ((exact fun _ => rfl))
      go_big_quiet_step ((intro hG; exact hG.calls (lives_yes _)))
      go_big_quiet_step ((exact fun _ => rfl))
      go_big_quiet_step ((exact fun _ => rfl))
      refine wpQuiet_nil ?_
      intro w11 hG
      have hB11 := hB10.trans (hG.below.mono hB10.size)
      go_wp2
      go_ret
      exact ⟨rfl, hB11⟩

end Go.Proofs.Ytpbmgcnalhaajaa.utfBack
