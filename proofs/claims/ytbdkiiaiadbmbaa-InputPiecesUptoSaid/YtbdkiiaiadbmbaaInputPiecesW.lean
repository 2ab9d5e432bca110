/- sievelaw03.InputPieces: the walk. -/
import Derived.Test.YtbdkiiaiadbmbaaFed
import Derived.Test.YtbdkiiaiadbmbaaInSu
import Derived.Test.YtbdkiiaiadbmbaaGrow
namespace Go.Proofs.Ytbdkiiaiadbmbaa.inputPieces
open Go.RowKit
set_option linter.unusedVariables false
set_option linter.unusedSimpArgs false

theorem quiet_sub_to {P : Program} {C : World → Prop} {o : Oper} {a : Act} {K : Act → Prop} (t : TypeId) (x hi : Operand) (ho : o.op = .slice t x none (some hi) none) (e : TypeId) (ht : P.underlying t = some (.slice e)) (i : TypeInfo) (hi' : P.info? e = some i) (hs : P.cellsOf e = 1)
    (ao : Option Addr) (n cap h : Nat) (hx : a.eval x = .slice ao n cap) (hhi : a.eval hi = .int .i64 (h : Int)) (h2 : h ≤ cap) (hk : K (a.put o.dst (.slice ao h cap))) : o.quiet P a C K :=
  quiet_run (ops := #[]) _ (fun W _ => by
    have hrun := run_sub_to t e ht i hi' hs ao n cap h h2 W
    simp [execOp, ho, hx, hhi, Instr.sliceAt, run_underlying ht, hrun, Result.andThen]) hk

set_option maxRecDepth 100000 in
set_option maxHeartbeats 1000000 in
theorem walk (v cv : Value) (xs cs : List Int) (w : World) (hs : SlI .u8 w.heap.size w v xs) (hcs : SlI .i64 w.heap.size w cv cs) (hb : Byt xs) (hx : xs.length ≤ 1048576) (hc : cs.length ≤ 1048576) :
    Calls Try.prog 7 #[v, cv] w fun e w' => e = .returned (.bool true) ∧ Below w.heap.size w w' := by
  obtain ⟨i0, hi, hz0, hz1, hz2⟩ := info_parts Try.infoCell
  obtain ⟨i1, hi1, hy0, hy1, hy2⟩ := info_parts Try.infoU8b
  have hce : Try.prog.cellsOf 5 = 1 := by kernel_rfl
  have hrl := readOf_length xs
  go_enter Try.func7, Try.ntmps7
  go_wp2_with fail
  refine (snew_any _).mono ?_
  rintro e w1 ⟨rfl, hD1, hb1, hsz1⟩
  have hB1 := hb1
  have hs1 := hs.step hb1
  have hcs1 := hcs.step hb1
  go_wp2_with fail
  refine (refread_any _ _ xs _ hs1 (Nat.le_refl _) hb (by omega)).mono ?_
  rintro e wa ⟨av, rfl, howna, hba⟩
  have hBa := bnext hB1 hba
  have hsa := hs1.step hba
  have hcsa := hcs1.step hba
  have hDa := hD1.of (hba.block _ hD1.lt)
  obtain ⟨aa, ac, rfl, hac, _, hacell⟩ := owns_shape howna
  rw [hsz1] at howna hacell
  clear hb1 hba hs1 hcs1 hD1
  go_wp2_with fail
  refine (cuts_any _ _ _ xs cs _ hsa hcsa (Nat.le_refl _) (by omega) (by omega)).mono ?_
  rintro e w2 ⟨lv, L, rfl, hown2, hH2, hflat, hLl, hb2⟩
  obtain ⟨la, lc, rfl, hlc, hln, hlcell⟩ := owns_shape hown2
  have hB2 := bnext hBa hb2
  have hs2 := hs.below hB2 (Nat.le_refl _)
  have hD2 := hDa.of (hb2.block _ hDa.lt)
  have HA2 := Lib.hid (ownsRow_below howna hb2 (Nat.le_refl _))
  have hszw : w.heap.size < wa.heap.size := hDa.lt
  have hsz2 : wa.heap.size ≤ w2.heap.size := hb2.size
  have HLC := Lib.hid hlcell
  have HACL : Hid (0 < (readOf xs).length → ∃ g, aa = some ⟨g, 0, none⟩ ∧ w.heap.size + 1 ≤ g ∧ g < wa.heap.size ∧ ∀ (j : Nat) c, (encKs (readOf xs))[j]? = some c → w2.cell? ⟨g, j, none⟩ = some c) := Lib.hid (fun h0 => by
    obtain ⟨g, h1, h2, h3, h4⟩ := hacell h0
    exact ⟨g, h1, h2, h3, fun j c hj => (hb2.cell (p := ⟨g, j, none⟩) h3).trans (h4 j c hj)⟩)
  clear hlcell hln hacell howna hDa hsa hcsa hb2 hBa hB1 hcs
  generalize hDe : w.heap.size = D at *
  obtain ⟨ao, cap, rfl, hcp, hn, hr⟩ := hs2
  have hsl2 : SlI .u8 D w2 (.slice ao xs.length cap) xs := ⟨ao, cap, rfl, hcp, hn, hr⟩
  have hflen : ∀ k, (fed L k).length ≤ xs.length := by
    intro k
    obtain ⟨r, hr⟩ := fed_pre L k
    rw [hflat] at hr
    have := congrArg List.length hr
    simp at this; omega
  clear hs hr hn
  go_wp2_with fail
  go_loopw [7, 8, 32] (fun t f i wr => ∃ (k : Nat) (hv : Value), i = .int .i64 k ∧ k ≤ L.length ∧ f = .int .i64 ((fed L k).length : Int) ∧
      wr.ownsRow w2.heap.size 36 4 t (readOf (xOf (fed L k))).length (encKs (readOf (xOf (fed L k)))) ∧
      wr.ownsRow w2.heap.size 5 1 hv (hOf (fed L k)).length ((hOf (fed L k)).map (Value.int .u8)) ∧ StAt wr D (plOf (fed L k)) hv false ∧ Frm (fun i => i = D) w2 wr) (fun _ _ i _ => L.length - (intOf i).toNat)
  case atStart => exact ⟨0, _, rfl, Nat.zero_le _, rfl, World.ownsRow_nil _ _ _ _, World.ownsRow_nil _ _ _ _, hD2, Frm.refl _ _⟩
  case round =>
    obtain ⟨k, hv, rfl, hk, rfl, htold, hheld, hD, hF⟩ := hrel
    by_cases hkn : k < L.length
    · obtain ⟨g, rfl, hg1, hg2, hgc⟩ := HLC.out (by omega)
      obtain ⟨⟨pv, ys⟩, hpk⟩ : ∃ p, L[k]? = some p := ⟨_, List.getElem?_eq_getElem hkn⟩
      have hcp1 : w2.cell? ⟨g, k, none⟩ = some pv := hgc k pv (by simp [hpk])
      have hcx : wr.cell? ⟨g, k, none⟩ = some pv := (hF.cell (p := ⟨g, k, none⟩) hg2 (by show ¬ g = D; omega)).trans hcp1
      have hpH : w2.ownsRow wa.heap.size 5 1 pv ys.length (ys.map (Value.int .u8)) := hH2 (pv, ys) (List.mem_of_getElem? hpk)
      have hfs : fed L (k + 1) = fed L k ++ ys := fed_succ hpk
      obtain ⟨r, hrr⟩ := fed_pre L (k + 1)
      rw [hflat] at hrr
      have hbk : Byt (fed L (k + 1)) := byt_left (hrr ▸ hb)
      have hbr : Byt r := byt_right (hrr ▸ hb)
      rw [hfs] at hbk hrr
      have hle : (fed L k ++ ys).length ≤ xs.length := by have := congrArg List.length hrr; simp at this ⊢; omega
      have htake : xs.take (fed L k ++ ys).length = fed L k ++ ys := by rw [← hrr]; exact List.take_left
      obtain ⟨pa, pc, rfl, hpl, _, _⟩ := owns_shape hpH
      have hlr : w2.heap.size ≤ wr.heap.size := hF.size
      have hslp : SlI .u8 wr.heap.size wr (.slice pa ys.length pc) ys := by
        refine (slI_of_owns (ownsRow_frm hpH hF (fun k hk e => ?_)) (Nat.le_refl _))
        subst e
        have := (hpH.lt k hk).1
        omega
      have hby := byt_right hbk
      have hbf := byt_left hbk
      have hyl : ys.length ≤ 1048576 := by rw [List.length_append] at hle; omega
      have hfk := hflen k
      have hbhy : Byt (hOf (fed L k) ++ ys) := byt_append (hOf_byt hbf) hby
      have hfn := feed_next (fed L k) ys hbf hbhy
      have haa := all_after (fed L k ++ ys) r hbk (byt_append (hOf_byt hbk) hbr)
      rw [hrr] at haa
      have hfit := plOf_fits (fed L k) (by omega)
      have hhl := hOf_length (fed L k)
      have HAA := Lib.hid haa
      clear hgc hpk hcp1 haa
      go_wp2_with fail
      refine (lend_any _ _ ys _ hslp (Nat.le_refl _) (by omega)).mono ?_
      rintro e w3 ⟨g3, rfl, hg3, hown3, hb3⟩
      have hF3 := hF.next hb3
      have hD3 := hD.of (hb3.block D hD.lt)
      have hheld3 := ownsRow_below hheld hb3 (Nat.le_refl _)
      have htold3 := ownsRow_below htold hb3 (Nat.le_refl _)
      have hlh := hheld.lt
      have hlt := htold.lt
      have HL3 := Lib.hid hown3
      have hslq := lent_mid hown3
      have hsz3 := hb3.size
      clear hF hD hheld htold hslp hown3
      go_wp2_with fail
      refine (sfeed_any D w2.heap.size w3.heap.size (plOf (fed L k)) hv _ (hOf (fed L k)) ys _ hD3 hheld3 (by omega) (by omega) hslq (Nat.le_refl _) (hOf_byt hbf) hby (by omega) hfit).mono ?_
      rintro e w4 ⟨lq, hv4, rfl, hD4, hheld4, hown4, hf4⟩
      obtain ⟨n1, n2, n3⟩ := hfn
      rw [← n2] at hD4
      rw [← n3] at hheld4
      obtain ⟨T, hT⟩ : ∃ T, cl (gr (wd ((hOf (fed L k) ++ ys).take (sureOf false (hOf (fed L k) ++ ys))))) (plOf (fed L k)) = T := ⟨_, rfl⟩
      have hTl : (gr (wd ((hOf (fed L k) ++ ys).take (sureOf false (hOf (fed L k) ++ ys))))).length = T.length := by rw [← hT, cl_length]
      rw [hTl, hT] at hown4
      rw [hT] at n1
      have hF4 : Frm (fun i => i = D) w2 w4 := hF3.trans hf4 (fun i hi h => h.elim (fun h => h) (fun h => by have := (hlh i h).1; omega))
      have htold4 := ownsRow_frm htold3 hf4 (fun q hq e => e.elim (fun e => by subst e; have := (hlt q hq).1; omega) (fun e => owns_apart htold3 hheld3 (by decide) q hq e))
      have HL4 := Lib.hid (ownsRow_frm HL3.out hf4 (fun q hq e => by have h1 := (HL3.out.lt q hq).1; exact e.elim (fun e => by omega) (fun e => by have := (hlh q e).2; omega)))
      have hsz4 := hf4.size
      have hx1 := readOf_length (xOf (fed L k ++ ys))
      have hx2 := xOf_length (fed L k ++ ys)
      have hx3 : (readOf (xOf (fed L k))).length + T.length = (readOf (xOf (fed L k ++ ys))).length := by rw [n1]; simp
      have hbl : (fed L k ++ ys).length = (fed L k).length + ys.length := List.length_append
      have HFL := Lib.hid (show ((fed L k).length : Int) + (ys.length : Int) = ((fed L k ++ ys).length : Int) from by omega)
      have HN1 := Lib.hid n1
      obtain ⟨ha, hcap, rfl, hhc, _, _⟩ := owns_shape hheld4
      have HHV := Lib.hid hheld4
      have HTK := Lib.hid htake
      have HFS := Lib.hid hfs
      have HPH := Lib.hid hpH
      have hrl4 : (readOf (xOf (fed L k ++ ys))).length ≤ 1048576 := by omega
      have HW4 := Lib.hid hown4
      clear hheld3 htold3 hF3 hD3 hf4 hheld4 hbl htake hfs hpH hrr hcx hslq n1 n2 n3 hT hTl hown4 hbhy hhl
      generalize hbb : fed L k ++ ys = bb at *
      clear hbb
      go_wp2_with (first
        | (refine wpList_sub_to rfl 25 _ _ rfl 5 Try.underlying25 i1 hi1 hce ao xs.length cap bb.length rfl (congrArg (Value.int .i64) HFL.out) (by omega) ?_)
        | (at_builtin; refine wpList_append_row rfl _ _ 28 rfl w2.heap.size 36 i0 (.agg #[.int .i32 0, .int .i64 0, .int .i64 0, .int .i64 0]) 4 32 Try.underlying28 hi hz0 hz1 hz2 rfl (by decide) _ _ _ rfl htold4 w3.heap.size lq T.length (encKs T) rfl HW4.out (encKs_length T) (encKs_one T) (by unfold maxLen; omega) (by omega) (by omega) ?_; intro tv w5 hown5 hgrow5))
      have hlt4 := htold4.lt
      have hf5 := frm_grown hgrow5
      have hF5 : Frm (fun i => i = D) w2 w5 := hF4.trans hf5 (fun i hi h => by have := (hlt4 i h).1; omega)
      have hD5 := hD4.of (hf5.block D hD4.lt (fun h => by have := (hlt4 D h).1; omega))
      have hheld5 := ownsRow_frm HHV.out hf5 (fun q hq e => owns_apart htold4 HHV.out (by decide) q e hq)
      have HL5 := Lib.hid (ownsRow_frm HL4.out hf5 (fun q hq e => by have h1 := (HL3.out.lt q hq).1; have := (hlt q e).2; omega))
      have hown5' : w5.ownsRow w2.heap.size 36 4 tv (readOf (xOf bb)).length (encKs (readOf (xOf bb))) := by rw [HN1.out, encKs_append, List.length_append]; exact hown5
      have hsub5 := slI_frmB hsl2 hF5 (by omega) (fun i hi e => by omega)
      have hs5a := slI_upto hsub5 hle
      rw [HTK.out] at hs5a
      have HT5 := Lib.hid hown5'
      have HH5 := Lib.hid hheld5
      have hsz5 := hf5.size
      clear hown5 hown5' hgrow5 hf5 hF4 hD4 HL4 HHV htold4 hheld5 HW4
      refine (heldL_any D _ bb _ hs5a (by omega) hbk (by omega)).mono ?_
      rintro e w6 ⟨rfl, hb6⟩
      have hD6 := hD5.of (hb6.block D hD5.lt)
      have hF6 := hF5.next hb6
      have HH6 := Lib.hid (ownsRow_below HH5.out hb6 (Nat.le_refl _))
      have HT6 := Lib.hid (ownsRow_below HT5.out hb6 (Nat.le_refl _))
      have HL6 := Lib.hid (ownsRow_below HL5.out hb6 (Nat.le_refl _))
      have hs6a := hs5a.below hb6 (by omega)
      have hsub6 := hsub5.below hb6 (by omega)
      have hsz6 := hb6.size
      clear hs5a hsub5 hD5 hF5 HH5 HT5 HL5 hb6
      have htw : ∀ W, Grew w6 W → Calls Try.prog 28 #[.slice ao bb.length cap] W fun e w' => e = .returned (.int .i64 (tailOf bb : Nat)) ∧ Below W.heap.size W w' := fun W hG => reftail_any D _ bb W (hs6a.below hG.below (by omega)) (by have := hG.below.size; omega) hbk (by omega)
      have hcw : ∀ W, Grew w6 W → Calls Try.prog 27 #[.slice ao bb.length cap, .int .i64 (tailOf bb : Nat)] W fun e w' => e = .returned (.bool (crB bb (tailOf bb))) ∧ Below W.heap.size W w' := fun W hG =>
        (crAhead_any D _ bb (tailOf bb) W (hs6a.below hG.below (by omega)) (by omega) (tail_le bb)).mono fun e w' h => ⟨h.1, h.2 ▸ Below.refl _ _⟩
      have htl := tail_le bb
      obtain ⟨hsu1, hsu2⟩ := held_sure bb
      have HTW := Lib.hid htw
      have HCW := Lib.hid hcw
      clear htw hcw
      go_wp2_with fail
      refine wp_region_class (Grew w6) (by kernel_rfl) (by kernel_rfl) (Grew.drawn w6) ?_
      iterate 2 go_big_quiet_step ((exact fun _ => rfl))
      go_big_quiet_want
      refine quiet_sub_to 25 _ _ rfl 5 Try.underlying25 i1 hi1 hce ao xs.length cap bb.length rfl (congrArg (Value.int .i64) HFL.out) (by omega) ?_
      go_simp
      go_big_quiet_on
      iterate 2 go_big_quiet_step ((exact fun _ => rfl))
      go_big_quiet_want
      refine quiet_sub_to 25 _ _ rfl 5 Try.underlying25 i1 hi1 hce ao xs.length cap bb.length rfl (congrArg (Value.int .i64) HFL.out) (by omega) ?_
      go_simp
      go_big_quiet_on
      go_big_quiet_step ((intro hG; exact hG.calls (HTW.out _ hG)))
      go_big_quiet_step ((intro hG; exact hG.calls (HCW.out _ hG)))
      refine wpQuiet_nil ?_
      intro w7 hG7
      have hb7 := hG7.below
      have hD7 := hD6.of (hb7.block D hD6.lt)
      have hF7 := hF6.next hb7
      have HH7 := Lib.hid (ownsRow_below HH6.out hb7 (Nat.le_refl _))
      have HT7 := Lib.hid (ownsRow_below HT6.out hb7 (Nat.le_refl _))
      have HL7 := Lib.hid (ownsRow_below HL6.out hb7 (Nat.le_refl _))
      have hs7a := hs6a.below hb7 (by omega)
      have hsub7 := hsub6.below hb7 (by omega)
      have hsz7 := hb7.size
      have hfly : ((fed L k).length : Int) + (ys.length : Int) = (bb.length : Int) := HFL.out
      have hsul := sure_le false bb
      clear HTW HCW hG7 hb7 hs6a hsub6 hD6 hF6 HH6 HT6 HL6
      generalize crB bb (tailOf bb) = CR at *
      cases CR
      · rw [if_neg (by simp)] at hsu1 hsu2
        have HCS := Lib.hid (show ((fed L k).length : Int) + (ys.length : Int) - ((heldN bb : Nat) : Int) = ((sureOf false bb : Nat) : Int) from by omega)
        obtain ⟨w8, hw8⟩ : ∃ w8, w8 = w7 := ⟨_, rfl⟩
        rw [← hw8] at hD7 hF7 HH7 HT7 HL7 hsub7 hsz7 ⊢
        have hD8 := hD7
        have hF8 := hF7
        have HH8 := HH7
        have HT8 := HT7
        have HL8 := HL7
        have hsub8 := hsub7
        have hsz8 := hsz7
        clear hw8 hs7a hD7 hF7 HH7 HT7 HL7 hsub7 hfly
        have hsub8S := slI_upto hsub8 (show sureOf false bb ≤ xs.length by omega)
        have hxo : xs.take (sureOf false bb) = xOf bb := by
          unfold xOf
          have h1 := sure_le false bb
          have h2 : bb.take (sureOf false bb) = (xs.take bb.length).take (sureOf false bb) := by rw [HTK.out]
          rw [h2, List.take_take, Nat.min_eq_left h1]
        rw [hxo] at hsub8S
        have hbx := hbk.take (sureOf false bb)
        go_wp2_with (refine wpList_sub_to rfl 25 _ _ rfl 5 Try.underlying25 i1 hi1 hce ao xs.length cap (sureOf false bb) rfl (congrArg (Value.int .i64) HCS.out) (by omega) ?_)
        refine (refread_any D _ (xOf bb) _ hsub8S (by omega) hbx (by omega)).mono ?_
        rintro e w9 ⟨rv, rfl, hown9, hb9⟩
        have hD9 := hD8.of (hb9.block D hD8.lt)
        have hF9 := hF8.next hb9
        have HH9 := Lib.hid (ownsRow_below HH8.out hb9 (Nat.le_refl _))
        have HT9 := Lib.hid (ownsRow_below HT8.out hb9 (Nat.le_refl _))
        have HL9 := Lib.hid (ownsRow_below HL8.out hb9 (Nat.le_refl _))
        have hsz9 := hb9.size
        have hr1 := slC_of_owns HT9.out
        have hr2 := slC_of_owns hown9
        clear hsub8 hsub8S hxo hbx hD8 hF8 HH8 HT8 HL8 hb9 hown9
        go_wp2_with fail
        refine (same3_yes w9.heap.size _ _ (readOf (xOf bb)) _ hr1 hr2 (by omega)).mono ?_
        rintro e wa2 ⟨rfl, hda⟩
        have hba2 := hda.step
        have hDa := hD9.of (hba2.block D hD9.lt)
        have hFa := hF9.next hba2
        have HHa := Lib.hid (ownsRow_below HH9.out hba2 (Nat.le_refl _))
        have HTa := Lib.hid (ownsRow_below HT9.out hba2 (Nat.le_refl _))
        have HLa := Lib.hid (ownsRow_below HL9.out hba2 (Nat.le_refl _))
        have hsza := hba2.size
        have hpa : SlI .u8 wa2.heap.size wa2 (.slice pa ys.length pc) ys := by
          refine (slI_of_owns (ownsRow_frm HPH.out hFa (fun k hk e => ?_)) (Nat.le_refl _))
          subst e
          have := (HPH.out.lt k hk).1
          omega
        have hla := slI_of_owns (k := .u8) (xs := lent ys) HLa.out (Nat.le_refl _)
        clear hr1 hr2 hD9 hF9 HH9 HT9 HL9 hba2 hda
        go_wp2_with fail
        refine (kept_yes wa2.heap.size _ _ ys _ hla hpa hby (by omega)).mono ?_
        rintro e wb ⟨rfl, hdb⟩
        have hbb2 := hdb.step
        have hDb := hDa.of (hbb2.block D hDa.lt)
        have hFb := hFa.next hbb2
        have HHb := Lib.hid (ownsRow_below HHa.out hbb2 (Nat.le_refl _))
        have HTb := Lib.hid (ownsRow_below HTa.out hbb2 (Nat.le_refl _))
        have hszb := hbb2.size
        obtain ⟨ta, tc, rfl, htc, _, _⟩ := owns_shape HTb.out
        clear hla hpa hDa hFa HHa HTa HLa hbb2 hdb
        have hpw := fun W (hG : Grew wb W) => splace_any D (plOf bb) _ false W (hDb.of (hG.below.block D hDb.lt))
        have HPW := Lib.hid hpw
        clear hpw
        by_cases hN : (readOf (xOf bb)).length < (readOf xs).length
        · obtain ⟨gA, rfl, gA1, gA2, gA3⟩ := HACL.out (by omega)
          obtain ⟨c, hck⟩ : ∃ c, (readOf xs)[(readOf (xOf bb)).length]? = some c := ⟨_, List.getElem?_eq_getElem hN⟩
          have hcp3 : c.p = plOf bb := by
            rw [HAA.out, List.getElem?_append_right (Nat.le_refl _), Nat.sub_self] at hck
            exact cl_head hck
          obtain ⟨_, q1, q2, q3⟩ := cell_cells gA3 hck
          rw [hcp3] at q1 q2 q3
          have hqw : ∀ W, Grew wb W → W.cell? ⟨gA, (readOf (xOf bb)).length * 4 + 1, none⟩ = some (.int .i64 (plOf bb).b) ∧ W.cell? ⟨gA, (readOf (xOf bb)).length * 4 + 2, none⟩ = some (.int .i64 (plOf bb).l) ∧ W.cell? ⟨gA, (readOf (xOf bb)).length * 4 + 3, none⟩ = some (.int .i64 (plOf bb).c) := by
            intro W hG
            have hh : ∀ j, W.cell? ⟨gA, j, none⟩ = w2.cell? ⟨gA, j, none⟩ := fun j => (hG.below.cell (p := ⟨gA, j, none⟩) (by show gA < _; omega)).trans (hFb.cell (p := ⟨gA, j, none⟩) (by show gA < _; omega) (by show ¬ gA = D; omega))
            rw [hh, hh, hh]
            exact ⟨q1, q2, q3⟩
          have HQW := Lib.hid hqw
          clear hqw q1 q2 q3 gA3 hck hcp3
          go_wp2_with fail
          refine wp_region_class (Grew wb) (by kernel_rfl) (by kernel_rfl) (Grew.drawn wb) ?_
          iterate 7 go_big_quiet_step ((exact fun _ => rfl))
          go_big_quiet_step ((intro hG; exact hG.calls (HPW.out _ hG)))
          iterate 5 go_big_quiet_step ((exact fun _ => rfl))
          go_big_quiet_want
          refine quiet_run (ops := #[]) (.agg #[.int .i64 (plOf bb).b, .int .i64 (plOf bb).l, .int .i64 (plOf bb).c]) (fun W hG => ?_) ?_
          · obtain ⟨l0, l1, l2⟩ := HQW.out W hG
            simp [go_sem, execOp, l0, l1, l2]
          go_simp
          go_big_quiet_on
          go_big_quiet_want
          refine quiet_run (ops := #[]) (.bool false) (fun W hG => ?_) ?_
          · have e1 := neq_place (plOf bb).b (plOf bb).l (plOf bb).c (plOf bb).b (plOf bb).l (plOf bb).c W
            have e2 := fun x y => guard_place .neq x y #[.int .i64 (plOf bb).b, .int .i64 (plOf bb).l, .int .i64 (plOf bb).c] #[.int .i64 (plOf bb).b, .int .i64 (plOf bb).l, .int .i64 (plOf bb).c] W
            simp only [execOp, Sem.run_bind]
            simp [Act.eval, e1, e2, Result.andThen]
          go_simp
          go_big_quiet_on
          go_big_quiet_step ((exact fun _ => rfl))
          refine wpQuiet_nil ?_
          intro wc hGc
          have hbc := hGc.below
          have hDc := hDb.of (hbc.block D hDb.lt)
          have hFc := hFb.next hbc
          have HHc := Lib.hid (ownsRow_below HHb.out hbc (Nat.le_refl _))
          have HTc := Lib.hid (ownsRow_below HTb.out hbc (Nat.le_refl _))
          go_wp2
          go_roundw
          case rel =>
            refine ⟨k + 1, _, by go_num, by omega, ?_, ?_, ?_, by rw [HFS.out]; exact hDc, hFc⟩
            · rw [HFS.out, HFL.out]
            · rw [HFS.out]; exact HTc.out
            · rw [HFS.out]; exact ownsRow_base HHc.out (by omega)
          case measure => simp [intOf]; omega
        · go_wp2_with fail
          refine wp_region_class (Grew wb) (by kernel_rfl) (by kernel_rfl) (Grew.drawn wb) ?_
          iterate 16 go_big_quiet_step ((exact fun _ => rfl))
          refine wpQuiet_nil ?_
          intro wc hGc
          have hbc := hGc.below
          have hDc := hDb.of (hbc.block D hDb.lt)
          have hFc := hFb.next hbc
          have HHc := Lib.hid (ownsRow_below HHb.out hbc (Nat.le_refl _))
          have HTc := Lib.hid (ownsRow_below HTb.out hbc (Nat.le_refl _))
          go_wp2
          go_roundw
          case rel =>
            refine ⟨k + 1, _, by go_num, by omega, ?_, ?_, ?_, by rw [HFS.out]; exact hDc, hFc⟩
            · rw [HFS.out, HFL.out]
            · rw [HFS.out]; exact HTc.out
            · rw [HFS.out]; exact ownsRow_base HHc.out (by omega)
          case measure => simp [intOf]; omega
      · rw [if_pos rfl] at hsu1 hsu2
        have HCS := Lib.hid (show ((fed L k).length : Int) + (ys.length : Int) - (((tailOf bb : Nat) : Int) + 1) = ((sureOf false bb : Nat) : Int) from by omega)
        clear hfly
        go_wp2_with (refine wpList_sub_to rfl 25 _ _ rfl 5 Try.underlying25 i1 hi1 hce ao xs.length cap bb.length rfl (congrArg (Value.int .i64) HFL.out) (by omega) ?_)
        refine (reftail_any D _ bb _ hs7a (by omega) hbk (by omega)).mono ?_
        rintro e w8 ⟨rfl, hb8⟩
        have hD8 := hD7.of (hb8.block D hD7.lt)
        have hF8 := hF7.next hb8
        have HH8 := Lib.hid (ownsRow_below HH7.out hb8 (Nat.le_refl _))
        have HT8 := Lib.hid (ownsRow_below HT7.out hb8 (Nat.le_refl _))
        have HL8 := Lib.hid (ownsRow_below HL7.out hb8 (Nat.le_refl _))
        have hsub8 := hsub7.below hb8 (by omega)
        have hsz8 : w6.heap.size ≤ w8.heap.size := Nat.le_trans hsz7 hb8.size
        clear hs7a hD7 hF7 HH7 HT7 HL7 hsub7 hb8
        have hsub8S := slI_upto hsub8 (show sureOf false bb ≤ xs.length by omega)
        have hxo : xs.take (sureOf false bb) = xOf bb := by
          unfold xOf
          have h1 := sure_le false bb
          have h2 : bb.take (sureOf false bb) = (xs.take bb.length).take (sureOf false bb) := by rw [HTK.out]
          rw [h2, List.take_take, Nat.min_eq_left h1]
        rw [hxo] at hsub8S
        have hbx := hbk.take (sureOf false bb)
        go_wp2_with (refine wpList_sub_to rfl 25 _ _ rfl 5 Try.underlying25 i1 hi1 hce ao xs.length cap (sureOf false bb) rfl (congrArg (Value.int .i64) HCS.out) (by omega) ?_)
        refine (refread_any D _ (xOf bb) _ hsub8S (by omega) hbx (by omega)).mono ?_
        rintro e w9 ⟨rv, rfl, hown9, hb9⟩
        have hD9 := hD8.of (hb9.block D hD8.lt)
        have hF9 := hF8.next hb9
        have HH9 := Lib.hid (ownsRow_below HH8.out hb9 (Nat.le_refl _))
        have HT9 := Lib.hid (ownsRow_below HT8.out hb9 (Nat.le_refl _))
        have HL9 := Lib.hid (ownsRow_below HL8.out hb9 (Nat.le_refl _))
        have hsz9 := hb9.size
        have hr1 := slC_of_owns HT9.out
        have hr2 := slC_of_owns hown9
        clear hsub8 hsub8S hxo hbx hD8 hF8 HH8 HT8 HL8 hb9 hown9
        go_wp2_with fail
        refine (same3_yes w9.heap.size _ _ (readOf (xOf bb)) _ hr1 hr2 (by omega)).mono ?_
        rintro e wa2 ⟨rfl, hda⟩
        have hba2 := hda.step
        have hDa := hD9.of (hba2.block D hD9.lt)
        have hFa := hF9.next hba2
        have HHa := Lib.hid (ownsRow_below HH9.out hba2 (Nat.le_refl _))
        have HTa := Lib.hid (ownsRow_below HT9.out hba2 (Nat.le_refl _))
        have HLa := Lib.hid (ownsRow_below HL9.out hba2 (Nat.le_refl _))
        have hsza := hba2.size
        have hpa : SlI .u8 wa2.heap.size wa2 (.slice pa ys.length pc) ys := by
          refine (slI_of_owns (ownsRow_frm HPH.out hFa (fun k hk e => ?_)) (Nat.le_refl _))
          subst e
          have := (HPH.out.lt k hk).1
          omega
        have hla := slI_of_owns (k := .u8) (xs := lent ys) HLa.out (Nat.le_refl _)
        clear hr1 hr2 hD9 hF9 HH9 HT9 HL9 hba2 hda
        go_wp2_with fail
        refine (kept_yes wa2.heap.size _ _ ys _ hla hpa hby (by omega)).mono ?_
        rintro e wb ⟨rfl, hdb⟩
        have hbb2 := hdb.step
        have hDb := hDa.of (hbb2.block D hDa.lt)
        have hFb := hFa.next hbb2
        have HHb := Lib.hid (ownsRow_below HHa.out hbb2 (Nat.le_refl _))
        have HTb := Lib.hid (ownsRow_below HTa.out hbb2 (Nat.le_refl _))
        have hszb := hbb2.size
        obtain ⟨ta, tc, rfl, htc, _, _⟩ := owns_shape HTb.out
        clear hla hpa hDa hFa HHa HTa HLa hbb2 hdb
        have hpw := fun W (hG : Grew wb W) => splace_any D (plOf bb) _ false W (hDb.of (hG.below.block D hDb.lt))
        have HPW := Lib.hid hpw
        clear hpw
        by_cases hN : (readOf (xOf bb)).length < (readOf xs).length
        · obtain ⟨gA, rfl, gA1, gA2, gA3⟩ := HACL.out (by omega)
          obtain ⟨c, hck⟩ : ∃ c, (readOf xs)[(readOf (xOf bb)).length]? = some c := ⟨_, List.getElem?_eq_getElem hN⟩
          have hcp3 : c.p = plOf bb := by
            rw [HAA.out, List.getElem?_append_right (Nat.le_refl _), Nat.sub_self] at hck
            exact cl_head hck
          obtain ⟨_, q1, q2, q3⟩ := cell_cells gA3 hck
          rw [hcp3] at q1 q2 q3
          have hqw : ∀ W, Grew wb W → W.cell? ⟨gA, (readOf (xOf bb)).length * 4 + 1, none⟩ = some (.int .i64 (plOf bb).b) ∧ W.cell? ⟨gA, (readOf (xOf bb)).length * 4 + 2, none⟩ = some (.int .i64 (plOf bb).l) ∧ W.cell? ⟨gA, (readOf (xOf bb)).length * 4 + 3, none⟩ = some (.int .i64 (plOf bb).c) := by
            intro W hG
            have hh : ∀ j, W.cell? ⟨gA, j, none⟩ = w2.cell? ⟨gA, j, none⟩ := fun j => (hG.below.cell (p := ⟨gA, j, none⟩) (by show gA < _; omega)).trans (hFb.cell (p := ⟨gA, j, none⟩) (by show gA < _; omega) (by show ¬ gA = D; omega))
            rw [hh, hh, hh]
            exact ⟨q1, q2, q3⟩
          have HQW := Lib.hid hqw
          clear hqw q1 q2 q3 gA3 hck hcp3
          go_wp2_with fail
          refine wp_region_class (Grew wb) (by kernel_rfl) (by kernel_rfl) (Grew.drawn wb) ?_
          iterate 7 go_big_quiet_step ((exact fun _ => rfl))
          go_big_quiet_step ((intro hG; exact hG.calls (HPW.out _ hG)))
          iterate 5 go_big_quiet_step ((exact fun _ => rfl))
          go_big_quiet_want
          refine quiet_run (ops := #[]) (.agg #[.int .i64 (plOf bb).b, .int .i64 (plOf bb).l, .int .i64 (plOf bb).c]) (fun W hG => ?_) ?_
          · obtain ⟨l0, l1, l2⟩ := HQW.out W hG
            simp [go_sem, execOp, l0, l1, l2]
          go_simp
          go_big_quiet_on
          go_big_quiet_want
          refine quiet_run (ops := #[]) (.bool false) (fun W hG => ?_) ?_
          · have e1 := neq_place (plOf bb).b (plOf bb).l (plOf bb).c (plOf bb).b (plOf bb).l (plOf bb).c W
            have e2 := fun x y => guard_place .neq x y #[.int .i64 (plOf bb).b, .int .i64 (plOf bb).l, .int .i64 (plOf bb).c] #[.int .i64 (plOf bb).b, .int .i64 (plOf bb).l, .int .i64 (plOf bb).c] W
            simp only [execOp, Sem.run_bind]
            simp [Act.eval, e1, e2, Result.andThen]
          go_simp
          go_big_quiet_on
          go_big_quiet_step ((exact fun _ => rfl))
          refine wpQuiet_nil ?_
          intro wc hGc
          have hbc := hGc.below
          have hDc := hDb.of (hbc.block D hDb.lt)
          have hFc := hFb.next hbc
          have HHc := Lib.hid (ownsRow_below HHb.out hbc (Nat.le_refl _))
          have HTc := Lib.hid (ownsRow_below HTb.out hbc (Nat.le_refl _))
          go_wp2
          go_roundw
          case rel =>
            refine ⟨k + 1, _, by go_num, by omega, ?_, ?_, ?_, by rw [HFS.out]; exact hDc, hFc⟩
            · rw [HFS.out, HFL.out]
            · rw [HFS.out]; exact HTc.out
            · rw [HFS.out]; exact ownsRow_base HHc.out (by omega)
          case measure => simp [intOf]; omega
        · go_wp2_with fail
          refine wp_region_class (Grew wb) (by kernel_rfl) (by kernel_rfl) (Grew.drawn wb) ?_
          iterate 16 go_big_quiet_step ((exact fun _ => rfl))
          refine wpQuiet_nil ?_
          intro wc hGc
          have hbc := hGc.below
          have hDc := hDb.of (hbc.block D hDb.lt)
          have hFc := hFb.next hbc
          have HHc := Lib.hid (ownsRow_below HHb.out hbc (Nat.le_refl _))
          have HTc := Lib.hid (ownsRow_below HTb.out hbc (Nat.le_refl _))
          go_wp2
          go_roundw
          case rel =>
            refine ⟨k + 1, _, by go_num, by omega, ?_, ?_, ?_, by rw [HFS.out]; exact hDc, hFc⟩
            · rw [HFS.out, HFL.out]
            · rw [HFS.out]; exact HTc.out
            · rw [HFS.out]; exact ownsRow_base HHc.out (by omega)
          case measure => simp [intOf]; omega
    · obtain rfl : k = L.length := by omega
      rw [fed_all, hflat] at htold hheld hD
      have hlh := hheld.lt
      have hlt := htold.lt
      have hlr : w2.heap.size ≤ wr.heap.size := hF.size
      have haa := all_after xs [] hb (by rw [List.append_nil]; exact hOf_byt hb)
      rw [List.append_nil, List.append_nil] at haa
      have hhl := hOf_length xs
      have hfit := plOf_fits xs (by omega)
      have hx1 := readOf_length (xOf xs)
      have hx2 := xOf_length xs
      obtain ⟨T, hT⟩ : ∃ T, cl (gr (wd (hOf xs))) (plOf xs) = T := ⟨_, rfl⟩
      have hTl : (gr (wd (hOf xs))).length = T.length := by rw [← hT, cl_length]
      rw [hT] at haa
      have hlen : (readOf (xOf xs)).length + T.length = (readOf xs).length := by rw [haa]; simp
      have HAA := Lib.hid haa
      clear HLC hown2 hH2 hD2 haa
      go_wp2_with fail
      refine (send_any D w2.heap.size (plOf xs) hv (hOf xs) _ hD hheld (by omega) (by omega) (hOf_byt hb) (by omega) hfit).mono ?_
      rintro e w3 ⟨lq, p3, hv3, rfl, hD3, hown3, hf3⟩
      rw [hTl, hT] at hown3
      have hF3 : Frm (fun i => i = D) w2 w3 := hF.trans hf3 (fun i hi h => h.elim (fun h => h) (fun h => by have := (hlh i h).1; omega))
      have htold3 := ownsRow_frm htold hf3 (fun q hq e => e.elim (fun e => by subst e; have := (hlt q hq).1; omega) (fun e => owns_apart htold hheld (by decide) q hq e))
      have hsz3 := hf3.size
      have HW3 := Lib.hid hown3
      clear hF hD hheld htold hf3 hown3 hT hTl
      go_wp2_with (first
        | (at_builtin; refine wpList_append_row rfl _ _ 28 rfl w2.heap.size 36 i0 (.agg #[.int .i32 0, .int .i64 0, .int .i64 0, .int .i64 0]) 4 32 Try.underlying28 hi hz0 hz1 hz2 rfl (by decide) _ _ _ rfl htold3 wr.heap.size lq T.length (encKs T) rfl HW3.out (encKs_length T) (encKs_one T) (by unfold maxLen; omega) (by omega) (by omega) ?_; intro tv w4 hown4 hgrow4))
      have hlt4 := htold3.lt
      have hf4 := frm_grown hgrow4
      have hF4 : Frm (fun i => i = D) w2 w4 := hF3.trans hf4 (fun i hi h => by have := (hlt4 i h).1; omega)
      have hD4 := hD3.of (hf4.block D hD3.lt (fun h => by have := (hlt4 D h).1; omega))
      have hown4' : w4.ownsRow w2.heap.size 36 4 tv (readOf xs).length (encKs (readOf xs)) := by rw [HAA.out, encKs_append, List.length_append]; exact hown4
      have hb5 : Below w4.heap.size w4 (w4.alloc (.cells #[.int .u8 65] 5)) := (Below.refl _ _).alloc (Nat.le_refl _) _
      have hD5 := hD4.of (hb5.block D hD4.lt)
      have hF5 := hF4.next hb5
      have hr1 := slC_of_owns (ownsRow_below hown4' hb5 (Nat.le_refl _))
      have hA2 := ownsRow_frm HA2.out hF5 (fun q hq e => by subst e; have := (HA2.out.lt _ hq).1; omega)
      have hr2 := slC_of_owns hA2
      have HR1 := Lib.hid hr1
      have HR2 := Lib.hid hr2
      clear hown4 hgrow4 hf4 hF4 hD4 hF3 hD3 htold3 hown4' hb5 hr1 hr2 hA2 HW3 HACL
      refine (sfeed_over D _ _ _ _ hD5).mono ?_
      rintro e w' ⟨rfl, rfl⟩
      go_wp2_with fail
      refine (send_over D _ _ _ hD5).mono ?_
      rintro e w' ⟨rfl, rfl⟩
      go_wp2_with fail
      refine (same3_yes _ _ _ (readOf xs) _ HR1.out HR2.out (by omega)).mono ?_
      rintro e w8 ⟨rfl, hd8⟩
      have hF8 := hF5.next hd8.step
      go_wp2_with fail
      refine (lives3_yes _).mono ?_
      rintro e w9 ⟨rfl, hb9⟩
      have hF9 := hF8.next hb9
      go_wp2_with fail
      go_ret
      exact ⟨rfl, by rw [hDe]; exact hB2.trans (hF9.below (by omega) (fun i hi e => by omega))⟩

end Go.Proofs.Ytbdkiiaiadbmbaa.inputPieces
