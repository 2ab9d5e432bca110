/- sievelaw03.InputReads: the walk. -/
import Derived.Test.YtbdkiiaiadbmbaaClean
import Derived.Test.YtbdkiiaiadbmbaaMisc
import Derived.Test.YtbdkiiaiadbmbaaFrm
namespace Go.Proofs.Ytbdkiiaiadbmbaa.inputReads
open Go.RowKit
set_option linter.unusedVariables false
set_option linter.unusedSimpArgs false

set_option maxRecDepth 100000 in
set_option maxHeartbeats 8000000 in
theorem walk (v : Value) (xs : List Int) (w : World) (hs : SlI .u8 w.heap.size w v xs) (hb : Byt xs) (hx : xs.length ≤ 1048576) :
    Calls Try.prog 4 #[v] w fun e w' => e = .returned (.bool true) ∧ Below w.heap.size w w' := by
  have hrl := readOf_length xs
  go_enter Try.func4, Try.ntmps4
  go_wp2_with fail
  refine (lend_any _ _ xs _ hs (Nat.le_refl _) (by omega)).mono ?_
  rintro e w1 ⟨g, rfl, hg, hown1, hb1⟩
  have hB1 := hb1
  have hp1 := lent_mid hown1
  have hl1 := lent_all hown1
  have hs1 := hs.step hb1
  have hl1b := hl1
  have hs1b := hs1
  clear hown1 hb1 hg
  go_wp2_with fail
  refine (read_cells _ _ xs _ hp1 (Nat.le_refl _) hb (by omega)).mono ?_
  rintro e w2 ⟨gv, rfl, hown2, hb2⟩
  have hB2 := bnext hB1 hb2
  have hp2 := hp1.step hb2
  have hl2 := hl1.step hb2
  have hs2 := hs1.step hb2
  have hlG := hown2.lt
  have h12 := hb2.size
  have hb12 := hb2
  have HG2 := Lib.hid hown2
  clear hown2 hb2 hp1
  go_wp2_with fail
  refine (read_cells _ _ xs _ hp2 (Nat.le_refl _) hb (by omega)).mono ?_
  rintro e w3 ⟨av, rfl, hown3, hb3⟩
  have hB3 := bnext hB2 hb3
  have hp3 := hp2.step hb3
  have hl3 := hl2.step hb3
  have hs3 := hs2.step hb3
  have hlA := hown3.lt
  have h23 := hb3.size
  have hb23 := hb3
  have HG3 := Lib.hid (ownsRow_below HG2.out hb3 (Nat.le_refl _))
  have HA3 := Lib.hid hown3
  clear hown3 hb3 hp2
  go_wp2_with fail
  refine (refread_any _ _ xs _ hs3 (Nat.le_refl _) hb (by omega)).mono ?_
  rintro e w4 ⟨wv, rfl, hown4, hb4⟩
  have hB4 := bnext hB3 hb4
  have hp4 := hp3.step hb4
  have hl4 := hl3.step hb4
  have hs4 := hs3.step hb4
  have hlW := hown4.lt
  have h34 := hb4.size
  have hb34 := hb4
  have HG4 := Lib.hid (ownsRow_below HG3.out hb4 (Nat.le_refl _))
  have HA4 := Lib.hid (ownsRow_below HA3.out hb4 (Nat.le_refl _))
  have HW4 := Lib.hid hown4
  clear hown4 hb4 hp3 hs3 hs2 hs1 hl3 hl2
  obtain ⟨ga, gc, rfl, hgc, hgn, hgcell⟩ := owns_shape HG4.out
  have HGC := Lib.hid hgcell
  clear hgn hgcell
  have hcv : ∀ W, Grew w4 W → (convert 25 9 v).run Try.prog W = .ok (.string (strOfNums xs)) W := fun W hG =>
    run_conv_sl (P := Try.prog) (hs4.below hG (Nat.le_refl _)) 25 9 5 Try.underlying25 Try.underlying5 Try.underlying9
  have hsame : ∀ W, Grew w4 W → Calls Try.prog 15 #[.slice ga (readOf xs).length gc, wv] W fun e w' => e = .returned (.bool true) ∧ Below W.heap.size W w' := fun W hG =>
    (same3_yes w4.heap.size _ _ (readOf xs) W ((slC_of_owns HG4.out).below hG.below (Nat.le_refl _)) ((slC_of_owns HW4.out).below hG.below (Nat.le_refl _)) (by omega)).mono fun e w' h => ⟨h.1, h.2.below _⟩
  obtain ⟨T, hT⟩ : ∃ T, strOfNums (encs (textOf xs)) = T := ⟨_, rfl⟩
  obtain ⟨K, hK⟩ : ∃ K, strOfNums (encs (cleanOf xs)) = K := ⟨_, rfl⟩
  have ht1 := fun W (hG : Grew w4 W) => text_any w4.heap.size _ xs W (hp4.below hG.below (Nat.le_refl _)) hG.below.size hb (by omega)
  have ht2 := fun W (hG : Grew w4 W) => reftext3_any w4.heap.size _ xs W (hs4.below hG.below (Nat.le_refl _)) hG.below.size hb (by omega)
  have hc1 := fun W => clean_any (strOfNums xs) W (by rw [strOfNums_size]; omega)
  have hc2 := fun W => refclean_any (strOfNums xs) W (by rw [strOfNums_size]; omega)
  rw [ns_str hb.byts, hK] at hc1 hc2
  rw [hT] at ht1 ht2
  have HCV := Lib.hid hcv
  have HSA := Lib.hid hsame
  have HT1 := Lib.hid ht1
  have HT2 := Lib.hid ht2
  have HC1 := Lib.hid hc1
  have HC2 := Lib.hid hc2
  clear hcv hsame ht1 ht2 hc1 hc2 hT hK
  go_wp2_with fail
  refine wp_region_class (Grew w4) (by kernel_rfl) (by kernel_rfl) (Grew.drawn w4) ?_
  iterate 2 go_big_quiet_step ((exact fun _ => rfl))
  go_big_quiet_step ((intro hG; exact hG.calls (HSA.out _ hG)))
  iterate 3 go_big_quiet_step ((exact fun _ => rfl))
  go_big_quiet_step ((intro hG; exact hG.calls (HT1.out _ hG)))
  iterate 1 go_big_quiet_step ((exact fun _ => rfl))
  go_big_quiet_step ((intro hG; exact hG.calls (HT2.out _ hG)))
  iterate 4 go_big_quiet_step ((exact fun _ => rfl))
  go_big_quiet_want
  refine quiet_convert 25 9 _ rfl (.string (strOfNums xs)) HCV.out ?_
  go_simp
  go_big_quiet_on
  go_big_quiet_step ((intro hG; exact hG.calls (HC1.out _)))
  go_big_quiet_step ((exact fun _ => rfl))
  go_big_quiet_want
  refine quiet_convert 25 9 _ rfl (.string (strOfNums xs)) HCV.out ?_
  go_simp
  go_big_quiet_on
  go_big_quiet_step ((intro hG; exact hG.calls (HC2.out _)))
  iterate 2 go_big_quiet_step ((exact fun _ => rfl))
  refine wpQuiet_nil ?_
  intro w5 hG5
  have hb5 := hG5.below
  have hb15 := ((hb12.trans (hb23.mono h12)).trans (hb34.mono (by omega))).trans (hb5.mono (by omega))
  have hB5 := bnext hB4 hb5
  have hs5 := hs4.below hb5 (Nat.le_refl _)
  have hl5 := hl4.below hb5 (Nat.le_refl _)
  have HG5 := Lib.hid (ownsRow_below HG4.out hb5 (Nat.le_refl _))
  have HA5 := Lib.hid (ownsRow_below HA4.out hb5 (Nat.le_refl _))
  have HW5 := Lib.hid (ownsRow_below HW4.out hb5 (Nat.le_refl _))
  have h45 := hb5.size
  clear hG5 HG4 HA4 HW4 HT1 HT2 HC1 HC2 HSA HCV hl4 hs4 hp4 hb12 hb23 hb34
  go_wp2
  go_loopw [42] (fun i wr => ∃ (j : Nat) (cs : List Value), i = .int .i64 j ∧ j ≤ (readOf xs).length ∧ wr.ownsRow w1.heap.size 36 4 (.slice ga (readOf xs).length gc) (readOf xs).length cs ∧ w5.grownBy wr (Value.slice ga (readOf xs).length gc).ownBlock) (fun i _ => (readOf xs).length - (intOf i).toNat)
  case atStart => exact ⟨0, _, rfl, Nat.zero_le _, HG5.out, World.grownBy.refl _ _⟩
  case round =>
    obtain ⟨j, cs, rfl, hj, hown, hgr⟩ := hrel
    by_cases hjn : j < (readOf xs).length
    · obtain ⟨gb, rfl, hgb1, hgb2, hgbc⟩ := HGC.out (by omega)
      have hc0 := hown.cellAt (j * 4) (by omega)
      have hf0 := hown.frozenAt (j * 4)
      have hst := hown.stored (j * 4) (.int .i32 120)
      have hc1 : ∃ y, wr.cell? ⟨gb, j * 4, none⟩ = some y := ⟨_, by rw [hc0, List.getElem?_eq_getElem (by have := hown.1; omega)]⟩
      obtain ⟨y, hy⟩ := hc1
      have HS := Lib.hid hst
      have HGR := Lib.hid hgr
      clear hc0 hgbc hst hown hgr
      go_wp2
      go_roundw
      case rel => exact ⟨j + 1, _, by go_num, by omega, HS.out.1, grownBy_tr HGR.out HS.out.2⟩
      case measure => simp [intOf]; omega
    · obtain rfl : j = (readOf xs).length := by omega
      have hbr : Below w1.heap.size w5 wr := (Below.refl _ _).grown hgr (by omega) (fun k hk => (hlG k hk).1)
      have hA := HA5.out.kept hgr (own_ne2 hlA hlG (Nat.le_refl _))
      have hW := HW5.out.kept hgr (own_ne2 hlW hlG (by omega))
      have hl : SlI .u8 w1.heap.size wr (.slice (some ⟨g, 0, none⟩) (xs.length + 4) (xs.length + 4)) (lent xs) := hl1b.below (hb15.trans (hbr)) (Nat.le_refl _)
      have hsw : SlI .u8 w1.heap.size wr v xs := hs1b.below (hb15.trans hbr) (Nat.le_refl _)
      have hzr := hbr.size
      have hAs := slC_of_owns hA
      have hWs := slC_of_owns hW
      have HAS := Lib.hid hAs
      have HWS := Lib.hid hWs
      clear hgr hown hA hW hAs hWs
      go_wp2_with fail
      refine (same3_yes _ _ _ (readOf xs) _ HAS.out HWS.out (by omega)).mono ?_
      rintro e w16 ⟨rfl, hd16⟩
      have hb16 := hd16.step
      go_wp2_with fail
      refine (kept_yes w1.heap.size _ _ xs _ (hl.below hb16 (by omega)) (hsw.below hb16 (by omega)) hb (by omega)).mono ?_
      rintro e w17 ⟨rfl, hd17⟩
      have hb17 := bnext hb16 hd17.step
      go_wp2_with fail
      refine (lives3_yes _).mono ?_
      rintro e w18 ⟨rfl, hb18⟩
      have hb1518 := bnext hb17 hb18
      go_wp2_with fail
      go_ret
      exact ⟨rfl, hB5.trans ((hbr.mono hB1.size).trans (hb1518.mono (by have := hB5.size; omega)))⟩

end Go.Proofs.Ytbdkiiaiadbmbaa.inputReads
