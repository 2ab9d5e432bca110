/- sievelaw01.UtfReads: the walk. -/
import Derived.Test.YtpbmgcnalhaajaaMend
import Derived.Test.YtpbmgcnalhaajaaPlace
import Derived.Test.YtpbmgcnalhaajaaValid
import Derived.Test.YtpbmgcnalhaajaaMisc
import Derived.Test.YtpbmgcnalhaajaaFrm
import Derived.Test.YtpbmgcnalhaajaaUtfWritesW
namespace Go.Proofs.Ytpbmgcnalhaajaa.utfReads
open Go.RowKit
set_option linter.unusedVariables false
set_option linter.unusedSimpArgs false
open utfWrites (grownBy_trans own_ne)

theorem place_lo (xs : List Int) (n : Int) (h : n < 0 ∨ ((pcs xs).length : Int) < n) : placeOf xs n = (0, 10) := by
  unfold placeOf; rw [if_neg (by omega), if_neg (by omega)]
theorem place_end (xs : List Int) : placeOf xs ((pcs xs).length : Int) = ((xs.length : Int), 0) := by
  unfold placeOf; rw [if_neg (by omega), if_pos rfl]
theorem place_mid {xs : List Int} {k : Nat} {e : Pc} (h : (pcs xs)[k]? = some e) : placeOf xs (k : Int) = ((e.pos : Int), 0) := by
  have hk := (List.getElem?_eq_some_iff.1 h).1
  unfold placeOf; rw [if_pos (by omega), Int.toNat_natCast, List.getElem?_map, h]; rfl

set_option maxHeartbeats 8000000 in
theorem walk (v : Value) (xs : List Int) (n : Int) (w : World) (hs : SlI .u8 w.heap.size w v xs) (hb : Byt xs) (hx : xs.length ≤ 1048576) (n0 : -9223372036854775808 ≤ n) (n1 : n ≤ 9223372036854775807) :
    Calls Try.prog 10 #[v, .int .i64 n] w fun e w' => e = .returned (.bool true) ∧ Below w.heap.size w w' := by
  have hN : (runesOf xs).length = (pcs xs).length := by simp [runesOf]
  have hplen := pcs_length xs
  go_enter Try.func10, Try.ntmps10
  go_wp2_with fail
  refine (lend_any _ _ xs _ hs (Nat.le_refl _) (by omega)).mono ?_
  rintro e w1 ⟨g, rfl, hg, hown1, hb1⟩
  have hB1 := hb1
  have hp1 := lent_mid hown1
  have hl1 := lent_all hown1
  have hs1 := hs.step hb1
  clear hown1 hb1 hg
  go_wp2_with fail
  refine (pieces_any _ _ xs _ hs1 (Nat.le_refl _) hb (by omega)).mono ?_
  rintro e w2 ⟨lv, rfl, hown2, hb2⟩
  obtain ⟨la, lc, rfl, hlc, hln, hlcell⟩ := owns_shape hown2
  have hB2 := bnext hB1 hb2
  have hp2 := hp1.step hb2
  have hl2 := hl1.step hb2
  have hs2 := hs1.step hb2
  have HLC := Lib.hid hlcell
  clear hlcell hown2 hb2 hp1 hl1 hs1 hln hB1
  go_wp2_with fail
  refine (runes_any _ _ xs _ hp2 (Nat.le_refl _) hb (by omega)).mono ?_
  rintro e w3 ⟨gv, rfl, hown3, hb3⟩
  rw [hN] at hown3
  have hB3 := bnext hB2 hb3
  have hlG := hown3.lt
  have hp3 := hp2.step hb3
  have hl3 := hl2.step hb3
  have hs3 := hs2.step hb3
  have h23 := hb3.size
  have HG3 := Lib.hid hown3
  go_wp2_with fail
  refine (runes_any _ _ xs _ hp3 (Nat.le_refl _) hb (by omega)).mono ?_
  rintro e w4 ⟨av, rfl, hown4, hb4⟩
  rw [hN] at hown4
  have hB4 := bnext hB3 hb4
  have hlA := hown4.lt
  have hp4 := hp3.step hb4
  have hl4 := hl3.step hb4
  have hs4 := hs3.step hb4
  have h34 := hb4.size
  have HG4 := Lib.hid (ownsRow_below HG3.out hb4 (Nat.le_refl _))
  have HA4 := Lib.hid hown4
  have hb24 := bnext hb3 hb4
  clear hown3 hown4 hb3 hb4 HG3 hp3 hl3 hs3
  go_wp2_with fail
  refine (refrunes_any _ _ xs _ hs4 (Nat.le_refl _) hb (by omega)).mono ?_
  rintro e w5 ⟨wv, rfl, hown5, hb5⟩
  rw [hN] at hown5
  have hB5 := bnext hB4 hb5
  have hlW := hown5.lt
  have hp5 := hp4.step hb5
  have hl5 := hl4.step hb5
  have hs5 := hs4.step hb5
  have h45 := hb5.size
  have HG5 := Lib.hid (ownsRow_below HG4.out hb5 (Nat.le_refl _))
  have HA5 := Lib.hid (ownsRow_below HA4.out hb5 (Nat.le_refl _))
  have HW5 := Lib.hid hown5
  have hb25 := bnext hb24 hb5
  clear hown5 hb5 HG4 HA4 hp4 hl4 hs4 hb24
  obtain ⟨ga, gc, rfl, hgc, hgn, hgcell⟩ := owns_shape HG5.out
  have HGC := Lib.hid hgcell
  obtain ⟨wa, wc, rfl, hwc, hwn, hwcell⟩ := owns_shape HW5.out
  have hGs : SlI .i32 w5.heap.size w5 _ (runesOf xs) := slI_of_owns HG5.out (Nat.le_refl _)
  have hWs : SlI .i32 w5.heap.size w5 _ (runesOf xs) := slI_of_owns HW5.out (Nat.le_refl _)
  clear hgcell hwcell hgn hwn
  go_wp2_with fail
  refine (same_yes _ _ _ (runesOf xs) _ hGs hWs (by rw [hN]; omega)).mono ?_
  rintro e w6 ⟨rfl, hd6⟩
  have hb6 := hd6.step
  have hp6 := hp5.step hb6
  have hs6 := hs5.step hb6
  clear hd6 hGs
  go_wp2_with fail
  refine (count_any _ _ xs _ hp6 (Nat.le_refl _) hb (by omega)).mono ?_
  rintro e w7 ⟨rfl, hb7⟩
  have hp7 := hp6.step hb7
  have hs7 := hs6.step hb7
  have hb57 := bnext hb6 hb7
  clear hb6 hb7 hp6 hs6
  go_wp2_with fail
  refine (valid_any _ _ xs _ hp7 hb (by omega)).mono ?_
  rintro e w8 ⟨rfl, hd8⟩
  have hb8 := hd8.step
  have hp8 := hp7.step hb8
  have hs8 := hs7.step hb8
  have hb58 := bnext hb57 hb8
  clear hb8 hd8 hp7 hs7 hb57
  go_wp2_with fail
  refine (refvalid_any _ _ xs _ hs8 (Nat.le_refl _) hb (by omega)).mono ?_
  rintro e w9 ⟨rfl, hb9⟩
  have hp9 := hp8.step hb9
  have hs9 := hs8.step hb9
  have hb59 := bnext hb58 hb9
  clear hb9 hp8 hs8 hb58
  go_wp2_with fail
  refine (tail_any _ _ xs _ hp9 hb (by omega)).mono ?_
  rintro e w10 ⟨rfl, hd10⟩
  have hb10 := hd10.step
  have hp10 := hp9.step hb10
  have hs10 := hs9.step hb10
  have hb510 := bnext hb59 hb10
  clear hb10 hd10 hp9 hs9 hb59
  go_wp2_with fail
  refine (reftail_any _ _ xs _ hs10 (Nat.le_refl _) hb (by omega)).mono ?_
  rintro e w11 ⟨rfl, hb11⟩
  have hp11 := hp10.step hb11
  have hs11 := hs10.step hb11
  have hb511 := bnext hb510 hb11
  clear hb11 hp10 hs10 hb510
  have hcv := run_conv_sl (P := Try.prog) hs11 23 9 5 Try.underlying23 Try.underlying5 Try.underlying9
  go_wp2_with fail
  have hmend := fun w0 => mend_any (strOfNums xs) w0 (by rw [strOfNums_size]; omega)
  simp only [ns_str hb.byts, mendOf] at hmend
  refine (hmend _).mono ?_
  rintro e w12 ⟨rfl, hb12⟩
  have hp12 := hp11.step hb12
  have hs12 := hs11.step hb12
  have hb512 := bnext hb511 hb12
  have hW12 := hWs.step hb512
  clear hb12 hp11 hs11 hb511 hcv hmend
  go_wp2_with fail
  refine (reftext_any _ _ (runesOf xs) _ hW12 (Nat.le_refl _) (by rw [hN]; omega)).mono ?_
  rintro e w13 ⟨rfl, hb13⟩
  have hp13 := hp12.step hb13
  have hs13 := hs12.step hb13
  have hb513 := bnext hb512 hb13
  clear hb13 hp12 hs12 hb512 hW12 hWs
  go_wp2_with fail
  refine (place_any _ _ xs n _ hp13 (Nat.le_refl _) hb (by omega)).mono ?_
  rintro e w14 ⟨rfl, hb14⟩
  have hs14 := hs13.step hb14
  have hb514 := bnext hb513 hb14
  have hB14 := bnext hB5 hb514
  have HG14 := Lib.hid (ownsRow_below HG5.out hb514 (Nat.le_refl _))
  have HA14 := Lib.hid (ownsRow_below HA5.out hb514 (Nat.le_refl _))
  have HW14 := Lib.hid (ownsRow_below HW5.out hb514 (Nat.le_refl _))
  have hb214 := bnext hb25 hb514
  have hs2b := hs2.below hb214 (Nat.le_refl _)
  have hl2b := hl2.below hb214 (Nat.le_refl _)
  clear hb14 hp13 hs13 hb513 hs14 hs5 hl5 hp5 HG5 HA5 HW5
  have hsz : w5.heap.size ≤ w14.heap.size := hb514.size
  have HN := Lib.hid hN
  clear hN hs hs2 hl2
  have hlen : SlI .u8 w2.heap.size w14 v xs := hs2b
  obtain ⟨ao, cap, rfl, hcap, hao, hrun⟩ := hlen
  have hcase : (n < 0 ∨ ((pcs xs).length : Int) < n) ∨ n = ((pcs xs).length : Int) ∨ ∃ k : Nat, n = (k : Int) ∧ k < (pcs xs).length := by
    rcases (show (n < 0 ∨ ((pcs xs).length : Int) < n) ∨ n = ((pcs xs).length : Int) ∨ (0 ≤ n ∧ n < ((pcs xs).length : Int)) from by omega) with h | h | h
    · exact .inl h
    · exact .inr (.inl h)
    · exact .inr (.inr ⟨n.toNat, by omega, by omega⟩)
  have HRUN := Lib.hid hrun
  clear hrun hao
  rcases hcase with (h | h) | rfl | ⟨k, rfl, hk⟩
  focus
    rw [place_lo xs n (.inl h)]
    go_wp2
  rotate_left 1
  focus
    rw [place_lo xs n (.inr h)]
    go_wp2
  rotate_left 1
  focus
    rw [place_end xs]
    go_wp2
  rotate_left 1
  focus
    obtain ⟨gl, rfl, hg1, hg2, hgc⟩ := HLC.out (by omega)
    obtain ⟨e, he⟩ : ∃ e, (pcs xs)[k]? = some e := ⟨_, List.getElem?_eq_getElem hk⟩
    have hc1 : w14.cell? ⟨gl, k * 4 + 1, none⟩ = some (.int .i64 (e.pos : Int)) := by
      rw [hb214.cell (p := ⟨gl, k * 4 + 1, none⟩) (by show gl < _; omega)]
      exact hgc _ _ (by rw [encPcs_get he 1 (by omega)]; rfl)
    rw [place_mid he]
    clear hgc he
    go_wp2
  rotate_left 1
  all_goals
    go_loopw [107] (fun i wr => ∃ (j : Nat) (cs : List Value), i = .int .i64 j ∧ j ≤ (pcs xs).length ∧ wr.ownsRow w2.heap.size 21 1 (.slice ga (pcs xs).length gc) (pcs xs).length cs ∧ w14.grownBy wr (Value.slice ga (pcs xs).length gc).ownBlock) (fun i _ => (pcs xs).length - (intOf i).toNat)
    case atStart => exact ⟨0, _, rfl, Nat.zero_le _, HG14.out, World.grownBy.refl _ _⟩
    case round =>
      obtain ⟨j, cs, rfl, hj, hown, hgr⟩ := hrel
      by_cases hjn : j < (pcs xs).length
      · obtain ⟨gb, rfl, hgb1, hgb2, hgbc⟩ := HGC.out (by omega)
        have hc0 := hown.cellAt j (by omega)
        have hf0 := hown.frozenAt j
        have hst := hown.stored j (.int .i32 120)
        have hc1 : ∃ y, wr.cell? ⟨gb, j, none⟩ = some y := ⟨_, by rw [hc0, List.getElem?_eq_getElem (by have := hown.1; omega)]⟩
        obtain ⟨y, hy⟩ := hc1
        have HS := Lib.hid hst
        have HGR := Lib.hid hgr
        clear hc0 hgbc hst hown hgr
        go_wp2
        go_roundw
        case rel => exact ⟨j + 1, _, by go_num, by omega, HS.out.1, grownBy_trans HGR.out HS.out.2⟩
        case measure => simp [intOf]; omega
      · obtain rfl : j = (pcs xs).length := by omega
        obtain ⟨i0, hi, hz0, hz1, hz2⟩ := info_parts Try.infoI32
        have hbr : Below w2.heap.size w14 wr := (Below.refl _ _).grown hgr (by have := hb214.size; omega) (fun k hk => (hlG k hk).1)
        have HA := Lib.hid (HA14.out.kept hgr (own_ne hlA hlG (Nat.le_refl _)))
        have HW := Lib.hid (HW14.out.kept hgr (own_ne hlW hlG (by omega)))
        have hzr := hbr.size
        clear hgr
        go_wp2_with (at_builtin; refine wpList_append_own _ rfl _ _ 36 rfl w2.heap.size 21 i0 (.int .i32 0) 1 4 Try.underlying36 hi hz0 hz1 hz2 rfl (by decide) _ _ _ rfl (hown.alloc _) ⟨wr.heap.size, 0, none⟩ 2 2 [.int .i32 121, .int .i32 122] rfl rfl ?c1 ?c2 ?c3 ?c4 ?c5 ?_)
        case c1 => exact cells_news _ _ _
        case c2 => intro u hu; simp at hu; rcases hu with rfl | rfl <;> rfl
        case c3 => unfold maxLen; omega
        case c4 => omega
        case c5 => simp; omega
        intro v' w15 hown15 hgrow15 _
        obtain ⟨va, vc, rfl, hvc, hvn, hvcell⟩ := owns_shape hown15
        have hb15 : Below w2.heap.size w14 w15 := (hbr.alloc (by omega) _).grown hgrow15 (by simp; omega) (fun k hk => (hlG k hk).1)
        have HA15 := ((HA.out.alloc _).kept hgrow15 (own_ne hlA hlG (Nat.le_refl _)))
        have HW15 := ((HW.out.alloc _).kept hgrow15 (own_ne hlW hlG (by omega)))
        have hAs : SlI .i32 w15.heap.size w15 _ (runesOf xs) := slI_of_owns HA15 (Nat.le_refl _)
        have hWs : SlI .i32 w15.heap.size w15 _ (runesOf xs) := slI_of_owns HW15 (Nat.le_refl _)
        have hz15 := hb15.size
        have hl15 := hl2b.below hb15 (Nat.le_refl _)
        have hs15 := hs2b.below hb15 (Nat.le_refl _)
        have HA15' := Lib.hid hAs
        have HW15' := Lib.hid hWs
        clear hvcell hvn hown15 hgrow15 hown HA15 HW15 hAs hWs
        go_wp2_with fail
        refine (same_yes _ _ _ (runesOf xs) _ HA15'.out HW15'.out (by rw [HN.out]; omega)).mono ?_
        rintro e w16 ⟨rfl, hd16⟩
        have hb16 := hd16.step
        go_wp2_with fail
        refine (kept_yes w2.heap.size _ _ xs _ (hl15.below hb16 (by omega)) (hs15.below hb16 (by omega)) hb (by omega)).mono ?_
        rintro e w17 ⟨rfl, hd17⟩
        have hb17 := bnext hb16 hd17.step
        go_wp2_with fail
        refine (lives_yes _).mono ?_
        rintro e w18 ⟨rfl, hb18⟩
        have hb1518 := bnext hb17 hb18
        go_wp2_with fail
        go_ret
        exact ⟨rfl, hB14.trans ((hb15.mono hB2.size).trans (hb1518.mono (by have := hB2.size; omega)))⟩

end Go.Proofs.Ytpbmgcnalhaajaa.utfReads
