/- utf.Decoder.Feed. -/
import Derived.Test.YtpbmgcnalhaajaaDecoder
namespace Go.Proofs.Ytpbmgcnalhaajaa
open Go.RowKit
set_option linter.unusedVariables false
set_option linter.unusedSimpArgs false

set_option maxHeartbeats 1000000 in
theorem feed_any (D base B : Nat) (hv bv : Value) (hs xs : List Int) (w : World) (hD : DecAt w D hv false) (hown : w.ownsRow base 5 1 hv hs.length (hs.map (Value.int .u8))) (hDb : D < base) (hbase : base ≤ w.heap.size)
    (hsx : SlI .u8 B w bv xs) (hb : Byt hs) (hbx : Byt xs) (hl : hs.length + xs.length ≤ 1099511627776) :
    Calls Try.prog 33 #[.pointer (some ⟨D, 0, none⟩), bv] w fun e w' => ∃ u hv', e = .returned (.tuple #[u, .int .i64 0]) ∧ DecAt w' D hv' false ∧
      w'.ownsRow w.heap.size 5 1 hv' (heldOf (hs ++ xs)).length ((heldOf (hs ++ xs)).map (Value.int .u8)) ∧
      w'.ownsRow w.heap.size 21 1 u (tell (hs ++ xs)).length ((tell (hs ++ xs)).map (Value.int .i32)) ∧ Frm (fun i => i = D ∨ hv.ownBlock = some i) w w' := by
  obtain ⟨i0, hi, hz0, hz1, hz2⟩ := info_parts Try.infoU8b
  have hce : Try.prog.cellsOf 5 = 1 := by kernel_rfl
  have hlt := hD.lt
  obtain ⟨c0, c1, c2, f0, f2⟩ := hD.cells
  have hne : hv.ownBlock ≠ some D := fun e => by have := (hown.lt D e).1; omega
  go_enter Try.func33, Try.ntmps33
  go_wp2_with (first
    | (go_at_call 53; refine (ready_ok D hv _ hD).mono ?_; rintro e w' ⟨rfl, rfl⟩)
    | (at_builtin; refine wpList_append_sl _ rfl _ _ 23 rfl base 5 i0 (.int .u8 0) 1 Try.underlying23 hi hz0 hz1 hz2 rfl _ _ _ rfl hown B _ _ rfl hsx.sl (ints_one _ _) ?h1 ?h2 hbase ?_))
  case h1 => simp [maxLen]; omega
  case h2 => simp; omega
  intro all w1 hown1 hgrow1 _
  have hb2 := byt_append hb hbx
  have hown1' : w1.ownsRow base 5 1 all (hs ++ xs).length ((hs ++ xs).map (Value.int .u8)) := by simpa using hown1
  have hf1 : Frm (fun i => i = D ∨ hv.ownBlock = some i) w w1 := Frm.of_grown hgrow1 (fun k hk => .inr hk)
  have hD1 : DecAt w1 D hv false := hD.of (hgrow1.block D hlt (fun e => hne e.symm))
  have hl2 : (hs ++ xs).length ≤ 1099511627776 := by simpa using hl
  clear hown1 hgrow1 hown hsx c0 c1 c2 f0 f2 hD hl hb hbx hne
  generalize hys : hs ++ xs = ys at *
  have HY := Lib.hid hys
  clear hys
  obtain ⟨la, lcap, rfl, hlc, hln, hlcell⟩ := owns_shape hown1'
  clear hlcell hln
  have hsl := slI_of_owns hown1' (Nat.le_refl _)
  have htl := tail_le ys
  have hdl : (ys.drop (ys.length - tailOf ys)).length ≤ 1099511627776 := by simp; omega
  have hsub := slI_sub hsl (lo := ys.length - tailOf ys) (hi := ys.length) (by omega) (Nat.le_refl _)
  rw [List.take_length] at hsub
  obtain ⟨sv, hsv⟩ : ∃ sv, subV la lcap (ys.length - tailOf ys) ys.length = sv := ⟨_, rfl⟩
  rw [hsv] at hsub
  have HSV := Lib.hid hsv
  have HCS := Lib.hid (show (ys.length : Int) - (tailOf ys : Int) = ((ys.length - tailOf ys : Nat) : Int) from by omega)
  clear hsv
  have HS1 := Lib.hid hown1'
  clear hown1'
  go_wp2_with (first
    | (go_at_call 43; refine (tail_any _ _ ys _ hsl hb2 hl2).mono ?_; rintro e w2 ⟨rfl, hd2⟩; have HS2 := Lib.hid (ownsRow_drew HS1.out hd2); have hsub2 := hsub.step hd2.step; have hsl2 := hsl.step hd2.step; have hf2 := hf1.next hd2.step; have hD2 := hD1.of (hd2.step.block D hD1.lt); clear hsub hsl hf1 hD1 HS1 hd2)
    | (refine wpList_sub_from rfl 23 _ _ rfl 5 Try.underlying23 i0 hi hce la ys.length lcap (ys.length - tailOf ys) rfl (congrArg (Value.int .i64) HCS.out) (by omega) HSV.out ?_)
    | (at_builtin; refine wpList_append_sl _ rfl _ _ 23 rfl w.heap.size 5 i0 (.int .u8 0) 1 Try.underlying23 hi hz0 hz1 hz2 rfl _ 0 [] rfl (World.ownsRow_nil _ _ _ _) w2.heap.size _ _ rfl hsub2.sl (ints_one _ _) ?h3 ?h4 ?h5 ?_))
  case h3 => simp [maxLen]; omega
  case h4 => simp; omega
  case h5 => exact hf2.size
  intro hv' w3 hown3 hgrow3 _
  have hb3 : Below w2.heap.size w2 w3 := ⟨hgrow3.os, hgrow3.tape, hgrow3.output, hgrow3.size, fun k hk => hgrow3.block k hk (by simp [Value.ownBlock])⟩
  have hf3 := hf2.next hb3
  have hD3 := hD2.of (hb3.block D hD2.lt)
  have hsl3 := hsl2.step hb3
  have hown3' : w3.ownsRow w.heap.size 5 1 hv' (heldOf ys).length ((heldOf ys).map (Value.int .u8)) := by simpa [heldOf] using hown3
  obtain ⟨ha, hcap, rfl, hhc, _, _⟩ := owns_shape hown3'
  have HV := Lib.hid hown3'
  obtain ⟨c0, c1, c2, f0, f2⟩ := hD3.cells
  have hDh : D < w.heap.size := hlt
  have hsz3 := hf3.size
  have hfs : Frm (fun i => i = D) w3 (w3.setCell ⟨D, 0, none⟩ (.slice ha (heldOf ys).length hcap)) := Frm.setCell _ _ _ rfl
  have hsl4 : SlI .u8 w3.heap.size (w3.setCell ⟨D, 0, none⟩ (.slice ha (heldOf ys).length hcap)) (.slice la ys.length lcap) ys := by
    refine hsl3.frm hfs (Nat.le_refl _) (fun k hk e => ?_)
    subst e
    have := (HS2.out.lt k hk).1
    omega
  have hsl5 : SlI .u8 w3.heap.size (w3.setCell ⟨D, 0, none⟩ (.slice ha (heldOf ys).length hcap)) (.slice la (ys.length - tailOf ys) lcap) (ys.take (ys.length - tailOf ys)) := by
    obtain ⟨ao, cap, he, q1, q2, q3⟩ := hsl4
    injection he with e1 e2 e3
    subst e1 e3
    refine ⟨la, lcap, by simp, by simp; omega, q2, fun h0 => ?_⟩
    obtain ⟨b, off, rfl, r1, r2⟩ := q3 (by rw [List.length_take] at h0; omega)
    refine ⟨b, off, rfl, r1, fun j x hj => r2 j x ?_⟩
    rw [List.getElem?_take] at hj
    split at hj
    · exact hj
    · cases hj
  have htl2 : (ys.take (ys.length - tailOf ys)).length ≤ 1099511627776 := by simp; omega
  have hbt := byt_take hb2 (ys.length - tailOf ys)
  clear hown3 hgrow3 hsl2 hsl3 hsl4 hsub2 hb3 hf2 hD2 hown3' HS2
  go_wp2_with (first
    | (refine wpList_sub_to rfl 23 _ _ rfl 5 Try.underlying23 i0 hi hce la ys.length lcap (ys.length - tailOf ys) rfl (congrArg (Value.int .i64) HCS.out) (by omega) ?_)
    | (go_at_call 26; refine (runes_any _ _ _ _ hsl5 (by simp) hbt htl2).mono ?_; rintro e w5 ⟨u, rfl, hown5, hb5⟩))
  go_ret2
  have hf5 : Frm (fun i => i = D ∨ hv.ownBlock = some i) w w5 := (hf3.trans hfs (fun _ _ h => .inl h)).next hb5
  refine ⟨u, _, rfl, (hD3.set0 _).of (hb5.block D (by simp; exact hD3.lt)), ?_, ?_, hf5⟩
  · rw [HY.out]
    refine ownsRow_below (ownsRow_frm HV.out hfs (fun k hk e => ?_)) hb5 (Nat.le_refl _)
    subst e
    have := (HV.out.lt k hk).1
    omega
  · rw [HY.out, tell]
    exact ownsRow_base hown5 (by simp; exact hsz3)

end Go.Proofs.Ytpbmgcnalhaajaa
