/- input.Clean and the reference's. -/
import Derived.Test.YtbdkiiaiadbmbaaInRefB
namespace Go.Proofs.Ytbdkiiaiadbmbaa
open Go.RowKit
set_option linter.unusedVariables false
set_option linter.unusedSimpArgs false

def cleanOf (xs : List Int) : List Int := (runesOf xs).map plainOf
theorem runes_le3 (xs : List Int) : (runesOf xs).length ≤ xs.length := by have := pcs_length xs; simpa [runesOf] using this
theorem mend_size (s : ByteArray) : (strOfNums (mendOf (ns s))).size ≤ 4 * s.size := by
  rw [strOfNums_size]
  have h1 := encs_length (runesOf (ns s))
  have h2 := runes_le3 (ns s)
  rw [ns_length] at h2
  unfold mendOf
  omega

set_option maxHeartbeats 2000000 in
theorem clean_any (s : ByteArray) (w : World) (hx : s.size ≤ 68719476736) :
    Calls Try.prog 18 #[.string s] w fun e w' => e = .returned (.string (strOfNums (encs (cleanOf (ns s))))) ∧ Below w.heap.size w w' := by
  obtain ⟨i0, hi, hz0, hz1, hz2⟩ := info_parts Try.infoI32
  go_enter Try.func18, Try.ntmps18
  go_wp2_with fail
  refine (mend_any s _ (by omega)).mono ?_
  rintro e w1 ⟨rfl, hb1⟩
  obtain ⟨t, ht⟩ : ∃ t, strOfNums (mendOf (ns s)) = t := ⟨_, rfl⟩
  have hnt : ns t = mendOf (ns s) := by rw [← ht]; exact ns_str (mendOf_byts _)
  have hts : t.size ≤ 4 * s.size := by rw [← ht]; exact mend_size s
  have hrt : runesOf (ns t) = runesOf (ns s) := by rw [hnt]; exact runes_mend (ns_byts s)
  have hvt : validOf (ns t) = true := by rw [hnt]; exact mend_is_valid _
  rw [ht]
  have hcl : cleanOf (ns s) = (runesOf (ns t)).map plainOf := by rw [hrt]; rfl
  have HCL := Lib.hid hcl
  have hntl := ns_length t
  have hrl := runes_le3 (ns t)
  clear ht hnt hrt hcl
  go_wp2
  go_loopw [3] (fun u wr => ∃ (pos : Nat) (pre : List Int), pos ≤ t.size ∧ wr.heap[w1.heap.size]? = some (.stringIter t pos) ∧ Below w1.heap.size w1 wr ∧ w1.heap.size + 1 ≤ wr.heap.size ∧ Hid (runesOf (ns t) = pre ++ runesOf ((ns t).drop pos)) ∧ Hid (validOf ((ns t).drop pos) = true) ∧ pre.length ≤ pos ∧ wr.ownsRow (w1.heap.size + 1) 21 1 u pre.length ((pre.map plainOf).map (Value.int .i32))) (fun _ wr => t.size - wr.iterPos w1.heap.size)
  case atStart => exact ⟨0, [], Nat.zero_le _, World.iter_heap w1 t 0, (Below.refl _ w1).alloc (Nat.le_refl _) _, by first | (simp; done) | (show _ ≤ (w1.heap.push _).size; simp), Lib.hid rfl, Lib.hid hvt, Nat.zero_le _, World.ownsRow_nil _ _ _ _⟩
  case round =>
    obtain ⟨pos, pre, hpos, hit, hbw, hsz, hR, hV, hpl, hown⟩ := hrel
    by_cases hp : pos < t.size
    · have hnx : ∀ ty, (Instr.next (.pointer (some ⟨w1.heap.size, 0, none⟩)) true ty).run Try.prog wr = _ := fun ty => Lib.run_next_any_at wr w1.heap.size t pos ty hit hp
      have hl : ((ns t).drop pos).length = t.size - pos := by simp [ns_length]
      have h0 : 0 < ((ns t).drop pos).length := by omega
      have hv0 := hV.out
      rw [valid_cons h0] at hv0
      simp only [Bool.and_eq_true, decide_eq_true_eq] at hv0
      have hdec := (decode_rd t pos hp).1 hv0.1
      have hgood := (goodB_iff _).1 (rd_good ((ns_byts t).drop pos) h0)
      have hrs := rd_size _ h0
      have hR2 : runesOf (ns t) = (pre ++ [(rd ((ns t).drop pos)).1]) ++ runesOf ((ns t).drop (pos + (rd ((ns t).drop pos)).2.1)) := by
        rw [hR.out, runes_cons h0, List.drop_drop]; simp
      have hv2 : validOf ((ns t).drop (pos + (rd ((ns t).drop pos)).2.1)) = true := by rw [← List.drop_drop]; exact hv0.2
      generalize (rd ((ns t).drop pos)).1 = r at *
      generalize (rd ((ns t).drop pos)).2.1 = k at *
      have hit2 := Lib.iterAt_heap wr w1.heap.size t pos (pos + k) hit
      have hbw2 := Lib.below_iterAt hbw (k := w1.heap.size) (Nat.le_refl _) t (pos + k)
      have hown2 := ownsRow_iterAt hown (k := w1.heap.size) (by omega) t (pos + k)
      have hsz2 : w1.heap.size + 1 ≤ (wr.iterAt w1.heap.size t (pos + k)).heap.size := by rw [Lib.iterAt_size]; exact hsz
      have HIP := Lib.hid (iterPos_at _ _ _ _ hit)
      have hrr : ((r.toNat : Nat) : Int) = r := by omega
      rw [hdec] at hnx
      simp only [hrr] at hnx
      obtain ⟨W, hW⟩ : ∃ W, wr.iterAt w1.heap.size t (pos + k) = W := ⟨_, rfl⟩
      rw [hW] at hnx hit2 hbw2 hown2 hsz2
      have HR2 := Lib.hid hR2
      have HV2 := Lib.hid hv2
      have HO := Lib.hid hown2
      have HI2 := Lib.hid hit2
      have hpr := fun w0 => plain_any r w0
      have HPR := Lib.hid hpr
      have hpm : ((pre ++ [r]).map plainOf).map (Value.int .i32) = (pre.map plainOf).map (Value.int .i32) ++ [.int .i32 (plainOf r)] := by simp
      have HPM := Lib.hid hpm
      have hs1 := hrs.1
      have hs2 : pos + k ≤ t.size := by omega
      clear hpr hpm hR2 hv2 hown2 hit2 hR hV hown hrs hv0 hdec
      generalize plainOf r = P at *
      generalize (pre.map plainOf).map (Value.int .i32) = cs at *
      have HW := Lib.hid hW
      clear hW
      go_wp2_with (first
        | (go_at_call 9; refine (HPR.out _).mono ?_; rintro e w' ⟨rfl, rfl⟩)
        | (at_builtin; refine wpList_append_own _ rfl _ _ 69 rfl (w1.heap.size + 1) 21 i0 (.int .i32 0) 1 4 Try.underlying69 hi hz0 hz1 hz2 rfl (by decide) _ pre.length cs rfl (HO.out.alloc _) ⟨W.heap.size, 0, none⟩ 1 1 [.int .i32 P] rfl rfl (cells_news _ _ _) (by intro u hu; simp at hu; subst hu; rfl) (by unfold maxLen; omega) (by omega) (by simp; omega) ?_; intro v' w3 hown3 hgrow3 _))
      have hnb : ∀ q, q = w1.heap.size → some q ≠ (Value.ownBlock u3) := fun q hq e => by have := (HO.out.lt q e.symm).1; omega
      have hB3 : Below w1.heap.size w1 w3 := (hbw2.alloc hbw2.size _).grown hgrow3 (by have := hbw2.size; simp; omega) (fun q hq => by have := ownBlock_lt HO.out q hq; omega)
      have hWl := (Array.getElem?_eq_some_iff.1 HI2.out).1
      have hit3 : w3.heap[w1.heap.size]? = some (.stringIter t (pos + k)) := (hgrow3.block w1.heap.size (by simp; omega) (hnb _ rfl)).trans ((Below.heap_alloc _ _ _ hWl).trans HI2.out)
      have hsz3 : w1.heap.size + 1 ≤ w3.heap.size := by have := hgrow3.size; simp at this; omega
      have HIP3 := Lib.hid (iterPos_at _ _ _ _ hit3)
      have HO3 := Lib.hid hown3
      have HI3 := Lib.hid hit3
      clear hown3 hgrow3 hit3 hnx
      go_wp2
      go_roundw
      case rel => exact ⟨pos + k, pre ++ [r], hs2, HI3.out, hB3, hsz3, HR2, HV2, by simp; omega, by rw [HPM.out]; simpa using HO3.out⟩
      case measure => rw [HIP.out, HIP3.out]; omega
    · have hnx : ∀ ty, (Instr.next (.pointer (some ⟨w1.heap.size, 0, none⟩)) true ty).run Try.prog wr = _ := fun ty => Lib.run_next_end_at wr w1.heap.size t pos ty hit hp
      have hend : runesOf (ns t) = pre := by
        rw [hR.out, List.drop_eq_nil_of_le (by omega), runes_nil, List.append_nil]
      have hown' : wr.ownsRow (w1.heap.size + 1) 21 1 u3 (pre.map plainOf).length ((pre.map plainOf).map (Value.int .i32)) := by rw [List.length_map]; exact hown
      have hcv := run_conv_runes (P := Try.prog) (slI_of_owns hown' (Nat.le_refl _)) 69 9 21 Try.underlying69 Try.underlying21 Try.underlying9
      rw [← hend, ← HCL.out] at hcv
      clear hown hown' hend hR hV
      go_wp2
      go_ret
      exact ⟨rfl, hb1.trans (hbw.mono hb1.size)⟩

set_option maxHeartbeats 2000000 in
theorem refclean_any (s : ByteArray) (w : World) (hx : s.size ≤ 68719476736) :
    Calls Try.prog 19 #[.string s] w fun e w' => e = .returned (.string (strOfNums (encs (cleanOf (ns s))))) ∧ Below w.heap.size w w' := by
  obtain ⟨i0, hi, hz0, hz1, hz2⟩ := info_parts Try.infoI32
  have hsl := ns_length s
  have hrl := runes_le3 (ns s)
  have hby := fun w0 => run_bytes_of_string (P := Try.prog) w0 9 25 5 s Try.underlying9 Try.underlying25 Try.underlying5
  have hs1 := slI_bytesRow w s (grownCap w s.size 0 5) (grownCap_ge w s.size 0 5) 5 ((bytesRow s (grownCap w s.size 0 5)).size, (bytesRow s (grownCap w s.size 0 5)).size + 1)
  have hB1 : Below w.heap.size w (w.alloc (.cells (bytesRow s (grownCap w s.size 0 5)) 5 ((bytesRow s (grownCap w s.size 0 5)).size, (bytesRow s (grownCap w s.size 0 5)).size + 1))) := (Below.refl _ w).alloc (Nat.le_refl _) _
  have hs2 := hs1.below (below_drewN (Below.refl (w.heap.size + 1) _) 1) (Nat.le_refl _)
  have hB2 := hB1.drew
  have HS1 := Lib.hid hs2
  have hbs := ns_byts s
  have hsz2 : w.heap.size + 1 = (w.alloc (.cells (bytesRow s (grownCap w s.size 0 5)) 5 ((bytesRow s (grownCap w s.size 0 5)).size, (bytesRow s (grownCap w s.size 0 5)).size + 1))).drew.heap.size := by show _ = (w.alloc _).heap.size; simp
  clear hs1 hs2 hB1
  go_enter Try.func19, Try.ntmps19
  go_wp2_with fail
  refine (refrunes_any _ _ _ _ HS1.out (Nat.le_of_eq hsz2) hbs.byt (by omega)).mono ?_
  rintro e w2 ⟨lv, rfl, hown2, hb2⟩
  have hB3 := hB2.trans (hb2.mono (by show w.heap.size ≤ (w.alloc _).heap.size; simp))
  clear hB2 hb2 hby HS1 hsz2
  obtain ⟨la, lc, rfl, hlc, hln, hlcell⟩ := owns_shape hown2
  have HLC := Lib.hid hlcell
  have hg := runes_good hbs
  have hcl : (cleanOf (ns s)).length = (runesOf (ns s)).length := by simp [cleanOf]
  have hck : ∀ (k : Nat) (r : Int), (runesOf (ns s))[k]? = some r → (cleanOf (ns s)).take (k + 1) = (cleanOf (ns s)).take k ++ [plainOf r] := by
    intro k r hr
    rw [List.take_add_one]; simp [cleanOf, hr]
  have hrg : ∀ (k : Nat) (r : Int), (runesOf (ns s))[k]? = some r → 0 ≤ r ∧ r ≤ 1114111 := by
    intro k r hr
    have := (goodB_iff _).1 (hg r (List.mem_of_getElem? hr))
    exact ⟨this.1, this.2.1⟩
  have HCK := Lib.hid hck
  have HRG := Lib.hid hrg
  have HCL := Lib.hid hcl
  have HC := Lib.hid (show cleanOf (ns s) = cleanOf (ns s) from rfl)
  generalize hCe : cleanOf (ns s) = C at HCK HCL
  have HCE := Lib.hid hCe
  clear hCe HC
  generalize runesOf (ns s) = R at *
  clear hlcell hln hown2 hg hck hrg hcl
  rw [hsl] at hrl
  clear hsl
  go_wp2
  go_loopw [3, 10] (fun u i wr => ∃ k : Nat, i = .int .i64 k ∧ k ≤ R.length ∧ wr.ownsRow w2.heap.size 21 1 u k ((C.take k).map (Value.int .i32)) ∧ Below w2.heap.size w2 wr) (fun _ i _ => R.length - (intOf i).toNat)
  case atStart => exact ⟨0, rfl, Nat.zero_le _, World.ownsRow_nil _ _ _ _, Below.refl _ _⟩
  case round =>
    obtain ⟨k, rfl, hk, hown, hBw⟩ := hrel
    by_cases hkn : k < R.length
    · obtain ⟨g, rfl, hg1, hg2, hgc⟩ := HLC.out (by omega)
      obtain ⟨r, hrk⟩ := get_of_lt R hkn
      have q0 := (hBw.cell (p := ⟨g, k, none⟩) hg2).trans (hgc k (.int .i32 r) (by simp [hrk]))
      have hr2 := HRG.out k r hrk
      have HT := Lib.hid (HCK.out k r hrk)
      have HPR := Lib.hid (fun w0 => plainR_any r w0 (by omega) (by omega))
      have HO := Lib.hid hown
      clear hown hgc hrk
      generalize plainOf r = P at *
      go_wp2_with (first
        | (go_at_call 10; refine (HPR.out _).mono ?_; rintro e w' ⟨rfl, rfl⟩)
        | (at_builtin; refine wpList_append_own _ rfl _ _ 69 rfl w2.heap.size 21 i0 (.int .i32 0) 1 4 Try.underlying69 hi hz0 hz1 hz2 rfl (by decide) _ k _ rfl (HO.out.alloc _) ⟨wr.heap.size, 0, none⟩ 1 1 [.int .i32 P] rfl rfl (cells_news _ _ _) (by intro u hu; simp at hu; subst hu; rfl) (by unfold maxLen; omega) (by omega) (by have := hBw.size; simp; omega) ?_; intro v' w3 hown3 hgrow3 _))
      have hB4 : Below w2.heap.size w2 w3 := (hBw.alloc hBw.size _).grown hgrow3 (by have := hBw.size; simp; omega) (ownBlock_lt HO.out)
      have HO3 := Lib.hid hown3
      clear hown3 hgrow3
      go_wp2
      go_roundw
      case rel => exact ⟨k + 1, by go_num, by omega, by rw [HT.out]; simpa using HO3.out, hB4⟩
      case measure => simp [intOf]; omega
    · obtain rfl : k = R.length := by omega
      rw [← HCL.out, List.take_length] at hown
      have hsl4 : SlI .i32 wr.heap.size wr u3 C := slI_of_owns hown (Nat.le_refl _)
      have hcl2 : C.length ≤ 274877906944 := by have := HCL.out; omega
      clear hown
      go_wp2_with fail
      refine (reftext_any _ _ _ _ hsl4 (Nat.le_refl _) hcl2).mono ?_
      rintro e w4 ⟨rfl, hb4⟩
      have hB4 := (hB3.trans (hBw.mono hB3.size)).trans (hb4.mono (Nat.le_trans hB3.size hBw.size))
      go_wp2
      go_ret
      exact ⟨by rw [HCE.out]; rfl, hB4⟩

end Go.Proofs.Ytbdkiiaiadbmbaa
