/- sievelaw01.UtfPieces: the walk. -/
import Derived.Test.YtpbmgcnalhaajaaFeed
import Derived.Test.YtpbmgcnalhaajaaCuts
import Derived.Test.YtpbmgcnalhaajaaReads1
import Derived.Test.YtpbmgcnalhaajaaMisc
import Derived.Test.YtpbmgcnalhaajaaLives1
namespace Go.Proofs.Ytpbmgcnalhaajaa.utfPieces
open Go.RowKit
set_option linter.unusedVariables false
set_option linter.unusedSimpArgs false

def fed (L : List (Value × List Int)) (k : Nat) : List Int := ((L.take k).map Prod.snd).flatten
theorem fed_succ {L : List (Value × List Int)} {k : Nat} {p : Value × List Int} (h : L[k]? = some p) : fed L (k + 1) = fed L k ++ p.2 := by
  unfold fed
  rw [List.take_add_one, h]
  simp
theorem fed_all (L : List (Value × List Int)) : fed L L.length = (L.map Prod.snd).flatten := by simp [fed]
theorem fed_pre (L : List (Value × List Int)) (k : Nat) : ∃ r, fed L k ++ r = (L.map Prod.snd).flatten := by
  refine ⟨((L.drop k).map Prod.snd).flatten, ?_⟩
  unfold fed
  rw [← List.flatten_append, ← List.map_append, List.take_append_drop]
theorem byt_left {a b : List Int} (h : Byt (a ++ b)) : Byt a := by
  intro j x hj
  exact h j x (by rw [List.getElem?_append_left (List.getElem?_eq_some_iff.1 hj).1]; exact hj)
theorem byt_right {a b : List Int} (h : Byt (a ++ b)) : Byt b := by
  intro j x hj
  exact h (a.length + j) x (by rw [List.getElem?_append_right (by omega), show a.length + j - a.length = j from by omega]; exact hj)
theorem byt_drop {a : List Int} (h : Byt a) (n : Nat) : Byt (a.drop n) := by
  have : Byt (a.take n ++ a.drop n) := by rw [List.take_append_drop]; exact h
  exact byt_right this

theorem slI_frmB {S : Nat → Prop} {k : IntKind} {B : Nat} {w w' : World} {v : Value} {xs : List Int} (h : SlI k B w v xs) (hf : Frm S w w') (hB : B ≤ w.heap.size) (hS : ∀ i, i < B → ¬ S i) : SlI k B w' v xs := by
  obtain ⟨ao, cap, rfl, hc, hn, hr⟩ := h
  refine ⟨ao, cap, rfl, hc, hn, fun h0 => ?_⟩
  obtain ⟨b, off, rfl, hlt, hrun⟩ := hr h0
  refine ⟨b, off, rfl, hlt, fun j x hj => ?_⟩
  rw [hf.cell (p := ⟨b, off + j, none⟩) (by show b < _; omega) (hS b hlt)]
  exact hrun j x hj
theorem slI_to {k : IntKind} {B : Nat} {w : World} {ao : Option Addr} {n cap : Nat} {xs : List Int} (h : SlI k B w (.slice ao n cap) xs) {m : Nat} (hm : m ≤ xs.length) : SlI k B w (.slice ao m cap) (xs.take m) := by
  obtain ⟨ao', cap', he, q1, q2, q3⟩ := h
  injection he with e1 e2 e3
  subst e1 e3
  refine ⟨ao, cap, by simp; omega, by simp; omega, q2, fun h0 => ?_⟩
  rw [List.length_take] at h0
  obtain ⟨b, off, rfl, r1, r2⟩ := q3 (by omega)
  refine ⟨b, off, rfl, r1, fun j x hj => r2 j x ?_⟩
  rw [List.getElem?_take] at hj
  split at hj
  · exact hj
  · cases hj

set_option maxRecDepth 100000 in
set_option maxHeartbeats 4000000 in
theorem walk (v cv : Value) (xs cs : List Int) (w : World) (hs : SlI .u8 w.heap.size w v xs) (hcs : SlI .i64 w.heap.size w cv cs) (hb : Byt xs) (hx : xs.length ≤ 1048576) (hc : cs.length ≤ 1048576) :
    Calls Try.prog 9 #[v, cv] w fun e w' => e = .returned (.bool true) ∧ Below w.heap.size w w' := by
  obtain ⟨i0, hi, hz0, hz1, hz2⟩ := info_parts Try.infoI32
  obtain ⟨i1, hi1, hy0, hy1, hy2⟩ := info_parts Try.infoU8b
  have hce : Try.prog.cellsOf 5 = 1 := by kernel_rfl
  have hb0 : Below w.heap.size w (w.alloc (.cells #[.slice none 0 0, .bool true, .bool false] 54)) := (Below.refl _ w).alloc (Nat.le_refl _) _
  have hs0 := hs.step hb0
  have hcs0 := hcs.step hb0
  have hD0 : DecAt (w.alloc (.cells #[.slice none 0 0, .bool true, .bool false] 54)) w.heap.size (.slice none 0 0) false := by
    unfold DecAt; exact World.alloc_heap_new w _
  go_enter Try.func9, Try.ntmps9
  go_wp2_with (first
    | (go_at_call 36; go_in)
    | (go_at_call 37; refine (cuts_any _ _ _ xs cs _ hs0 hcs0 (Nat.le_refl _) (by omega) (by omega)).mono ?_; rintro e w2 ⟨lv, L, rfl, hown2, hH2, hflat, hLl, hb2⟩; obtain ⟨la, lc, rfl, hlc, hln, hlcell⟩ := owns_shape hown2; have HLC := Lib.hid hlcell; clear hlcell hln))
  have hD2 : DecAt w2 w.heap.size (.slice none 0 0) false := hD0.of (hb2.block _ (by simp))
  have hB2 : Below w.heap.size w w2 := bnext hb0 hb2
  have hs2 := hs.below hB2 (Nat.le_refl _)
  have hsz2 : w.heap.size < w2.heap.size := hD2.lt
  rw [World.size_alloc] at hown2 hH2
  rw [World.size_alloc] at HLC
  generalize hDe : w.heap.size = D at *
  obtain ⟨ao, cap, rfl, hcp, hn, hr⟩ := hs2
  have hsl2 : SlI .u8 D w2 (.slice ao xs.length cap) xs := ⟨ao, cap, rfl, hcp, hn, hr⟩
  have hflen : ∀ k, (fed L k).length ≤ xs.length := by
    intro k
    obtain ⟨r, hr⟩ := fed_pre L k
    rw [hflat] at hr
    have := congrArg List.length hr
    simp at this; omega
  clear hs hcs hs0 hcs0 hD0 hb0 hb2 hr hn
  go_loopw [6, 7, 28] (fun t f i wr => ∃ (k : Nat) (hv : Value), i = .int .i64 k ∧ k ≤ L.length ∧ f = .int .i64 ((fed L k).length : Int) ∧
      wr.ownsRow w2.heap.size 21 1 t (tell (fed L k)).length ((tell (fed L k)).map (Value.int .i32)) ∧
      wr.ownsRow w2.heap.size 5 1 hv (heldOf (fed L k)).length ((heldOf (fed L k)).map (Value.int .u8)) ∧ DecAt wr D hv false ∧ Frm (fun i => i = D) w2 wr) (fun _ _ i _ => L.length - (intOf i).toNat)
  case atStart => exact ⟨0, _, rfl, Nat.zero_le _, rfl, World.ownsRow_nil _ _ _ _, World.ownsRow_nil _ _ _ _, hD2, Frm.refl _ _⟩
  case round =>
    obtain ⟨k, hv, rfl, hk, rfl, htold, hheld, hD, hF⟩ := hrel
    by_cases hkn : k < L.length
    · obtain ⟨g, rfl, hg1, hg2, hgc⟩ := HLC.out (by omega)
      obtain ⟨⟨pv, ys⟩, hpk⟩ : ∃ p, L[k]? = some p := ⟨_, List.getElem?_eq_getElem hkn⟩
      have hcp1 : w2.cell? ⟨g, k, none⟩ = some pv := hgc k pv (by simp [hpk])
      have hcx : wr.cell? ⟨g, k, none⟩ = some pv := (hF.cell (p := ⟨g, k, none⟩) hg2 (by show ¬ g = D; omega)).trans hcp1
      have hpH : w2.ownsRow (D + 1) 5 1 pv ys.length (ys.map (Value.int .u8)) := hH2 (pv, ys) (List.mem_of_getElem? hpk)
      have hfs : fed L (k + 1) = fed L k ++ ys := fed_succ hpk
      obtain ⟨r, hrr⟩ := fed_pre L (k + 1)
      rw [hflat] at hrr
      have hbk : Byt (fed L (k + 1)) := byt_left (hrr ▸ hb)
      rw [hfs] at hbk hrr
      have hle : (fed L k ++ ys).length ≤ xs.length := by have := congrArg List.length hrr; simp at this ⊢; omega
      have htake : xs.take (fed L k ++ ys).length = fed L k ++ ys := by rw [← hrr]; exact List.take_left
      obtain ⟨pa, pc, rfl, hpl, _, _⟩ := owns_shape hpH
      have hlr : w2.heap.size ≤ wr.heap.size := hF.size
      have hslp : SlI .u8 wr.heap.size wr (.slice pa ys.length pc) ys := by
        refine (slI_of_owns (ownsRow_frm hpH hF (fun k hk e => ?_)) (Nat.le_refl _))
        subst e
        have := (hpH.lt k hk).1
        omega
      have hby := byt_right hbk
      have hbf := byt_left hbk
      have hyl : ys.length ≤ 1048576 := by rw [List.length_append] at hle; omega
      have hfk := hflen k
      clear hgc hpk hcp1
      go_wp2_with fail
      refine (lend_any _ _ ys _ hslp (Nat.le_refl _) (by omega)).mono ?_
      rintro e w3 ⟨g3, rfl, hg3, hown3, hb3⟩
      have hF3 := hF.next hb3
      have hD3 := hD.of (hb3.block D hD.lt)
      have hheld3 := ownsRow_below hheld hb3 (Nat.le_refl _)
      have htold3 := ownsRow_below htold hb3 (Nat.le_refl _)
      have hlh := hheld.lt
      have hlt := htold.lt
      have HL3 := Lib.hid hown3
      have hslq := lent_mid hown3
      have hsz3 := hb3.size
      clear hF hD hheld htold hslp hown3
      go_wp2_with fail
      refine (feed_any D w2.heap.size w3.heap.size hv _ (heldOf (fed L k)) ys _ hD3 hheld3 hsz2 (by omega) hslq (by unfold heldOf; exact byt_drop hbf _) hby (by rw [heldOf_length]; have := tail_le (fed L k); omega)).mono ?_
      rintro e w4 ⟨lq, hv4, rfl, hD4, hheld4, hown4, hf4⟩
      rw [← held_feed] at hheld4
      have hF4 : Frm (fun i => i = D) w2 w4 := hF3.trans hf4 (fun i hi h => h.elim (fun h => h) (fun h => by have := (hlh i h).1; omega))
      have htold4 := ownsRow_frm htold3 hf4 (fun q hq e => e.elim (fun e => by subst e; have := (hlt q hq).1; omega) (fun e => owns_apart htold3 hheld3 (by decide) q hq e))
      have HL4 := Lib.hid (ownsRow_frm HL3.out hf4 (fun q hq e => by have h1 := (HL3.out.lt q hq).1; exact e.elim (fun e => by omega) (fun e => by have := (hlh q e).2; omega)))
      have hslu := slI_of_owns hown4 (Nat.le_refl _)
      have hsz4 := hf4.size
      have htl4 : (tell (heldOf (fed L k) ++ ys)).length ≤ 4194304 := by
        have h1 := tell_feed (fed L k) ys
        have h2 : (tell (fed L k ++ ys)).length ≤ (fed L k ++ ys).length := by
          unfold tell runesOf
          rw [List.length_map]
          refine Nat.le_trans (pcs_length _) ?_
          rw [List.length_take]; omega
        have h3 := congrArg List.length h1
        rw [List.length_append] at h3
        omega
      have htl5 : (tell (fed L k)).length ≤ 4194304 := by
        unfold tell runesOf
        rw [List.length_map]
        refine Nat.le_trans (pcs_length _) ?_
        rw [List.length_take]; omega
      have hbl : (fed L k ++ ys).length = (fed L k).length + ys.length := List.length_append
      have htle := tail_le (fed L k ++ ys)
      have HFL := Lib.hid (show ((fed L k).length : Int) + (ys.length : Int) = ((fed L k ++ ys).length : Int) from by omega)
      have HCS := Lib.hid (show ((fed L k).length : Int) + (ys.length : Int) - (tailOf (fed L k ++ ys) : Int) = (((fed L k ++ ys).length - tailOf (fed L k ++ ys) : Nat) : Int) from by omega)
      have HTF := Lib.hid (tell_feed (fed L k) ys)
      obtain ⟨ha, hcap, rfl, hhc, _, _⟩ := owns_shape hheld4
      have HHV := Lib.hid hheld4
      have HTK := Lib.hid htake
      have HFS := Lib.hid hfs
      have HPH := Lib.hid hpH
      have hne4 : (((heldOf (fed L k ++ ys)).length : Int) != (tailOf (fed L k ++ ys) : Int)) = false := by rw [heldOf_length]; simp
      clear hheld3 htold3 hF3 hD3 hf4 hown4 hheld4 hbl htake hfs hpH hrr hcx hslq
      generalize hbb : fed L k ++ ys = bb at *
      clear hbb
      go_wp2_with (at_builtin; refine wpList_append_sl _ rfl _ _ 36 rfl w2.heap.size 21 i0 (.int .i32 0) 4 Try.underlying36 hi hz0 hz1 hz2 rfl _ _ _ rfl htold4 w4.heap.size _ _ rfl hslu.sl (ints_one _ _) ?k1 ?k2 ?k3 ?_)
      case k1 => rw [List.length_map]; unfold maxLen; omega
      case k2 => rw [List.length_map]; omega
      case k3 => omega
      intro tv w5 hown5 hgrow5 _
      have hlt4 := htold4.lt
      have hf5 := frm_grown hgrow5
      have hF5 : Frm (fun i => i = D) w2 w5 := hF4.trans hf5 (fun i hi h => by have := (hlt4 i h).1; omega)
      have hD5 : DecAt w5 D _ false := hD4.of (hf5.block D hD4.lt (fun h => by have := (hlt4 D h).1; omega))
      have hheld5 := ownsRow_frm HHV.out hf5 (fun q hq e => owns_apart htold4 HHV.out (by decide) q e hq)
      have HL5 := Lib.hid (ownsRow_frm HL4.out hf5 (fun q hq e => by have h1 := (HL3.out.lt q hq).1; have := (hlt q e).2; omega))
      have hown5' : w5.ownsRow w2.heap.size 21 1 tv (tell bb).length ((tell bb).map (Value.int .i32)) := by rw [HTF.out]; simpa using hown5
      have hsub5 := slI_frmB hsl2 hF5 (by omega) (fun i hi e => by omega)
      have hs5a := slI_to hsub5 hle
      rw [HTK.out] at hs5a
      have HT5 := Lib.hid hown5'
      have HH5 := Lib.hid hheld5
      have hsz5 := hf5.size
      clear hown5 hown5' hgrow5 hf5 hF4 hD4 HL4 HHV htold4 hslu hheld5
      go_wp2_with (first
        | (refine wpList_sub_to rfl 23 _ _ rfl 5 Try.underlying23 i1 hi1 hce ao xs.length cap bb.length rfl (congrArg (Value.int .i64) HFL.out) (by omega) ?_))
      refine (reftail_any D _ bb _ hs5a (by omega) hbk (by omega)).mono ?_
      rintro e w6 ⟨rfl, hb6⟩
      have hD6 := hD5.of (hb6.block D hD5.lt)
      have hF6 := hF5.next hb6
      have hHH6 := Lib.hid (ownsRow_below HH5.out hb6 (Nat.le_refl _))
      have HT6 := Lib.hid (ownsRow_below HT5.out hb6 (Nat.le_refl _))
      have HL6 := Lib.hid (ownsRow_below HL5.out hb6 (Nat.le_refl _))
      have hs6a := slI_to (hs5a.below hb6 (by omega)) (Nat.sub_le _ (tailOf bb))
      have hsz6 := hb6.size
      clear hs5a hsub5 hD5 hF5 HH5 HT5 HL5 hb6
      have hel : (fed L k).length + ys.length = bb.length := by have := HFL.out; omega
      have hle1 : tailOf bb ≤ (fed L k).length + ys.length := by omega
      have hle2 : (fed L k).length + ys.length ≤ xs.length := by omega
      have hle3 : (fed L k).length + ys.length ≤ cap := by omega
      have hs6b : SlI .u8 D w6 (.slice ao ((fed L k).length + ys.length - tailOf bb) cap) (bb.take (bb.length - tailOf bb)) := by
        rw [show (fed L k).length + ys.length - tailOf bb = bb.length - tailOf bb from by omega]
        exact hs6a
      clear hel hs6a
      have hbt := byt_take hbk (bb.length - tailOf bb)
      have htl6 : (bb.take (bb.length - tailOf bb)).length ≤ 1099511627776 := by rw [List.length_take]; omega
      go_wp2_with (first
        | (go_at_call 35; refine (held_any D (.slice none 0 0) false ha _ hcap _ hD6).mono ?_; rintro e w' ⟨rfl, rfl⟩))
      refine (refrunes_any D _ (bb.take (bb.length - tailOf bb)) _ hs6b (by omega) hbt htl6).mono ?_
      rintro e w7 ⟨rv, rfl, hown7, hb7⟩
      rw [show runesOf (bb.take (bb.length - tailOf bb)) = tell bb from rfl] at hown7
      have hD7 := hD6.of (hb7.block D hD6.lt)
      have hF7 := hF6.next hb7
      have HH7 := Lib.hid (ownsRow_below hHH6.out hb7 (Nat.le_refl _))
      have HT7 := Lib.hid (ownsRow_below HT6.out hb7 (Nat.le_refl _))
      have HL7 := Lib.hid (ownsRow_below HL6.out hb7 (Nat.le_refl _))
      have hsz7 := hb7.size
      have htlb : (tell bb).length ≤ 9223372036854775807 := by
        unfold tell runesOf
        rw [List.length_map]
        refine Nat.le_trans (pcs_length _) ?_
        rw [List.length_take]; omega
      have hr1 := slI_of_owns HT7.out (Nat.le_refl _)
      have hr2 := slI_of_owns hown7 (Nat.le_refl _)
      clear hs6b hD6 hF6 hHH6 HT6 HL6 hb7 hown7
      go_wp2_with fail
      refine (same_yes w7.heap.size _ _ (tell bb) _ hr1 hr2 htlb).mono ?_
      rintro e w8 ⟨rfl, hd8⟩
      have hb8 := hd8.step
      have hD8 := hD7.of (hb8.block D hD7.lt)
      have hF8 := hF7.next hb8
      have HH8 := Lib.hid (ownsRow_below HH7.out hb8 (Nat.le_refl _))
      have HT8 := Lib.hid (ownsRow_below HT7.out hb8 (Nat.le_refl _))
      have HL8 := Lib.hid (ownsRow_below HL7.out hb8 (Nat.le_refl _))
      have hsz8 := hb8.size
      have hp8 : SlI .u8 w8.heap.size w8 (.slice pa ys.length pc) ys := by
        refine (slI_of_owns (ownsRow_frm HPH.out hF8 (fun k hk e => ?_)) (Nat.le_refl _))
        subst e
        have := (HPH.out.lt k hk).1
        omega
      have hl8 := slI_of_owns (k := .u8) (xs := lent ys) HL8.out (Nat.le_refl _)
      clear hr1 hr2 hD7 hF7 HH7 HT7 HL7 hb8 hd8
      go_wp2_with fail
      refine (kept_yes w8.heap.size _ _ ys _ hl8 hp8 hby (by omega)).mono ?_
      rintro e w9 ⟨rfl, hd9⟩
      have hb9 := hd9.step
      have hD9 := hD8.of (hb9.block D hD8.lt)
      have hF9 := hF8.next hb9
      have HH9 := Lib.hid (ownsRow_below HH8.out hb9 (Nat.le_refl _))
      have HT9 := Lib.hid (ownsRow_below HT8.out hb9 (Nat.le_refl _))
      clear hl8 hp8 hD8 hF8 HH8 HT8 HL8 hb9 hd9
      go_wp2
      go_roundw
      case rel =>
        refine ⟨k + 1, _, by go_num, by omega, ?_, ?_, ?_, hD9, hF9⟩
        · rw [HFS.out, HFL.out]
        · rw [HFS.out]; exact HT9.out
        · rw [HFS.out]; exact ownsRow_base HH9.out (by omega)
      case measure => simp [intOf]; omega
    · obtain rfl : k = L.length := by omega
      rw [fed_all, hflat] at htold hheld
      have hlh := hheld.lt
      have hlt := htold.lt
      have hlr : w2.heap.size ≤ wr.heap.size := hF.size
      have htl := tail_le xs
      have htx := tell_end xs
      have hrl : (runesOf xs).length ≤ xs.length := by have := pcs_length xs; simpa [runesOf] using this
      have hrl2 : (tell xs).length + (runesOf (heldOf xs)).length = (runesOf xs).length := by rw [htx]; simp
      have hrl3 : (tell xs).length + (runesOf (heldOf xs)).length ≤ 1048576 := by omega
      have HTX := Lib.hid htx
      clear HLC hown2 hH2 hD2 htx hrl2
      go_wp2_with fail
      refine (end_any D w2.heap.size hv (heldOf xs) _ hD hheld (by unfold heldOf; exact byt_drop hb _) (by rw [heldOf_length]; omega)).mono ?_
      rintro e w3 ⟨lq, rfl, hD3, hown3, hf3⟩
      have hF3 : Frm (fun i => i = D) w2 w3 := hF.trans hf3 (fun i hi h => h)
      have htold3 := ownsRow_frm htold hf3 (fun q hq e => by subst e; have := (hlt q hq).1; omega)
      have hslu := slI_of_owns hown3 (Nat.le_refl _)
      have hsz3 := hf3.size
      clear hF hD hheld htold hf3 hown3
      go_wp2_with (at_builtin; refine wpList_append_sl _ rfl _ _ 36 rfl w2.heap.size 21 i0 (.int .i32 0) 4 Try.underlying36 hi hz0 hz1 hz2 rfl _ _ _ rfl htold3 w3.heap.size _ _ rfl hslu.sl (ints_one _ _) ?k4 ?k5 ?k6 ?_)
      case k4 => rw [List.length_map]; unfold maxLen; omega
      case k5 => rw [List.length_map]; omega
      case k6 => omega
      intro tv w4 hown4 hgrow4 _
      have hlt4 := htold3.lt
      have hf4 := frm_grown hgrow4
      have hF4 : Frm (fun i => i = D) w2 w4 := hF3.trans hf4 (fun i hi h => by have := (hlt4 i h).1; omega)
      have hD4 : DecAt w4 D (.slice none 0 0) true := hD3.of (hf4.block D hD3.lt (fun h => by have := (hlt4 D h).1; omega))
      have hown4' : w4.ownsRow w2.heap.size 21 1 tv (runesOf xs).length ((runesOf xs).map (Value.int .i32)) := by rw [HTX.out]; simpa using hown4
      have hb5 : Below w4.heap.size w4 (w4.alloc (.cells #[.int .u8 65] 5)) := (Below.refl _ _).alloc (Nat.le_refl _) _
      have hD5 := hD4.of (hb5.block D hD4.lt)
      have hF5 := hF4.next hb5
      have HT5 := Lib.hid (ownsRow_below hown4' hb5 (Nat.le_refl _))
      have hsub5 := slI_frmB hsl2 hF5 (by omega) (fun i hi e => by omega)
      have hsz5 := hf4.size
      have hsz6 := hb5.size
      clear hown4 hgrow4 hf4 hF4 hD4 hF3 hD3 htold3 hown4' hslu hb5
      go_wp2_with (first
        | (go_at_call 33; refine (feed_over D _ _ _ hD5).mono ?_; rintro e w' ⟨rfl, rfl⟩)
        | (go_at_call 34; refine (end_over D _ _ hD5).mono ?_; rintro e w' ⟨rfl, rfl⟩))
      refine (refrunes_any D _ xs _ hsub5 (by omega) hb (by omega)).mono ?_
      rintro e w7 ⟨rv, rfl, hown7, hb7⟩
      have hD7 := hD5.of (hb7.block D hD5.lt)
      have hF7 := hF5.next hb7
      have hr1 := slI_of_owns (ownsRow_below HT5.out hb7 (Nat.le_refl _)) (Nat.le_refl _)
      have hr2 := slI_of_owns hown7 (Nat.le_refl _)
      clear hsub5 hD5 hF5 HT5 hb7 hown7
      go_wp2_with fail
      refine (same_yes w7.heap.size _ _ (runesOf xs) _ hr1 hr2 (by omega)).mono ?_
      rintro e w8 ⟨rfl, hd8⟩
      have hb8 := hd8.step
      have hD8 := hD7.of (hb8.block D hD7.lt)
      have hF8 := hF7.next hb8
      clear hr1 hr2 hD7 hF7 hb8 hd8
      go_wp2_with (first
        | (go_at_call 35; refine (held_any D (.slice none 0 0) true none 0 0 _ hD8).mono ?_; rintro e w' ⟨rfl, rfl⟩)
        | (go_at_call 12; refine (lives_yes _).mono ?_; rintro e w9 ⟨rfl, hb9⟩))
      go_ret
      have hF9 := hF8.next hb9
      exact ⟨rfl, by rw [hDe]; exact hB2.trans (hF9.below (by omega) (fun i hi e => by omega))⟩

end Go.Proofs.Ytpbmgcnalhaajaa.utfPieces
