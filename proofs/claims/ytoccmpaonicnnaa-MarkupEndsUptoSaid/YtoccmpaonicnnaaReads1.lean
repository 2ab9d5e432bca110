/- sieveref01.Runes, Tail, Valid; utf.Valid. -/
import Derived.Test.YtoccmpaonicnnaaPieces
import Derived.Test.YtoccmpaonicnnaaMisc
import Derived.Test.YtoccmpaonicnnaaDecC
import Derived.Test.YtoccmpaonicnnaaUtfC
import Derived.WalkMore
namespace Go.Proofs.Ytoccmpaonicnnaa
open Go.RowKit
set_option linter.unusedVariables false
set_option linter.unusedSimpArgs false

def vd (l : List Pc) : Bool := l.all fun c => decide (c.what = 0)
def validOf (b : List Int) : Bool := vd (pcs b)

/-- the four cells of a piece -/
theorem piece_cells {W : World} {g : Nat} {l : List Pc} (h : ∀ (j : Nat) c, (encPcs l)[j]? = some c → W.cell? ⟨g, j, none⟩ = some c) {k : Nat} {e : Pc} (he : l[k]? = some e) :
    W.cell? ⟨g, k * 4, none⟩ = some (.int .i32 e.r) ∧ W.cell? ⟨g, k * 4 + 1, none⟩ = some (.int .i64 (e.pos : Int)) ∧ W.cell? ⟨g, k * 4 + 2, none⟩ = some (.int .i64 (e.n : Int)) ∧ W.cell? ⟨g, k * 4 + 3, none⟩ = some (.bool (decide (e.what = 0))) := by
  refine ⟨h _ _ ?_, h _ _ ?_, h _ _ ?_, h _ _ ?_⟩
  · have := encPcs_get he 0 (by omega); rw [Nat.add_zero] at this; rw [this]; rfl
  · rw [encPcs_get he 1 (by omega)]; rfl
  · rw [encPcs_get he 2 (by omega)]; rfl
  · rw [encPcs_get he 3 (by omega)]; rfl

set_option maxHeartbeats 1000000 in
theorem refrunes_any (B : Nat) (v : Value) (xs : List Int) (w : World) (hs : SlI .u8 B w v xs) (hB : B ≤ w.heap.size) (hb : Byt xs) (hx : xs.length ≤ 1099511627776) :
    Calls Try.prog 37 #[v] w fun e w' => ∃ u, e = .returned u ∧ w'.ownsRow w.heap.size 21 1 u (runesOf xs).length ((runesOf xs).map (Value.int .i32)) ∧ Below w.heap.size w w' := by
  obtain ⟨i0, hi, hz0, hz1, hz2⟩ := info_parts Try.infoI32
  have hplen := pcs_length xs
  go_enter Try.func37, Try.ntmps37
  go_wp2_with fail
  refine (pieces_any _ _ xs _ hs hB hb hx).mono ?_
  rintro e w2 ⟨lv, rfl, hown2, hb2⟩
  obtain ⟨la, lc, rfl, hlc, hln, hlcell⟩ := owns_shape hown2
  have HLC := Lib.hid hlcell
  clear hlcell hln hown2
  go_wp2
  go_loopw [3, 9] (fun u i wr => ∃ k : Nat, i = .int .i64 k ∧ k ≤ (pcs xs).length ∧ wr.ownsRow w2.heap.size 21 1 u k (((runesOf xs).take k).map (Value.int .i32)) ∧ Below w2.heap.size w2 wr) (fun _ i _ => (pcs xs).length - (intOf i).toNat)
  case atStart => exact ⟨0, rfl, Nat.zero_le _, World.ownsRow_nil _ _ _ _, Below.refl _ _⟩
  case round =>
    obtain ⟨k, rfl, hk, hown, hBw⟩ := hrel
    by_cases hkn : k < (pcs xs).length
    · obtain ⟨g, rfl, hg1, hg2, hgc⟩ := HLC.out (by omega)
      obtain ⟨c, hck⟩ : ∃ c, (pcs xs)[k]? = some c := ⟨_, List.getElem?_eq_getElem hkn⟩
      obtain ⟨q0, q1, q2, q3⟩ := piece_cells hgc hck
      rw [← hBw.cell (p := ⟨g, k * 4, none⟩) hg2] at q0
      rw [← hBw.cell (p := ⟨g, k * 4 + 1, none⟩) hg2] at q1
      rw [← hBw.cell (p := ⟨g, k * 4 + 2, none⟩) hg2] at q2
      rw [← hBw.cell (p := ⟨g, k * 4 + 3, none⟩) hg2] at q3
      have htk : (runesOf xs).take (k + 1) = (runesOf xs).take k ++ [c.r] := by
        rw [List.take_add_one]; simp [runesOf, hck, pcRune]
      have HO := Lib.hid hown
      have HT := Lib.hid htk
      clear hown htk hgc hck
      go_wp2_with (at_builtin; refine wpList_append_own _ rfl _ _ 32 rfl w2.heap.size 21 i0 (.int .i32 0) 1 4 Try.underlying32 hi hz0 hz1 hz2 rfl (by decide) _ _ _ rfl ((HO.out.alloc _).alloc _) ⟨wr.heap.size + 1, 0, none⟩ 1 1 [.int .i32 c.r] rfl rfl ?c1 ?c2 ?c3 ?c4 ?c5 ?_)
      try (case c1 => intro j u hj; simpa using cells_news (wr.alloc _) _ _ j u hj)
      case c2 => first | rfl | (intro u hu; simp at hu; subst hu; rfl)
      case c3 => unfold maxLen; omega
      case c4 => omega
      case c5 => have := hBw.size; simp; omega
      intro v' w3 hown3 hgrow3 _
      have hB3 : Below w2.heap.size w2 w3 := ((hBw.alloc hBw.size _).alloc (by have := hBw.size; simp; omega) _).grown hgrow3 (by have := hBw.size; simp; omega) (ownBlock_lt HO.out)
      have HO3 := Lib.hid hown3
      clear hown3 hgrow3
      go_wp2
      go_roundw
      case rel => exact ⟨k + 1, by go_num, by omega, by rw [HT.out]; simpa using HO3.out, hB3⟩
      case measure => simp [intOf]; omega
    · obtain rfl : k = (pcs xs).length := by omega
      have hl : (runesOf xs).length = (pcs xs).length := by simp [runesOf]
      rw [← hl, List.take_length] at hown
      go_wp2
      go_ret
      exact ⟨_, rfl, ownsRow_base hown hb2.size, hb2.trans (hBw.mono hb2.size)⟩

set_option maxHeartbeats 1000000 in
theorem refvalid_any (B : Nat) (v : Value) (xs : List Int) (w : World) (hs : SlI .u8 B w v xs) (hB : B ≤ w.heap.size) (hb : Byt xs) (hx : xs.length ≤ 1099511627776) :
    Calls Try.prog 19 #[v] w fun e w' => e = .returned (.bool (validOf xs)) ∧ Below w.heap.size w w' := by
  have hplen := pcs_length xs
  go_enter Try.func19, Try.ntmps19
  go_wp2_with fail
  refine (pieces_any _ _ xs _ hs hB hb hx).mono ?_
  rintro e w2 ⟨lv, rfl, hown2, hb2⟩
  obtain ⟨la, lc, rfl, hlc, hln, hlcell⟩ := owns_shape hown2
  have HLC := Lib.hid hlcell
  clear hlcell hln hown2
  go_wp2
  go_loopw [8] (fun i wr => ∃ k : Nat, i = .int .i64 k ∧ k ≤ (pcs xs).length ∧ vd (pcs xs) = vd ((pcs xs).drop k) ∧ Below w2.heap.size w2 wr) (fun i _ => (pcs xs).length - (intOf i).toNat)
  case atStart => exact ⟨0, rfl, Nat.zero_le _, rfl, Below.refl _ _⟩
  case round =>
    obtain ⟨k, rfl, hk, hvd, hBw⟩ := hrel
    by_cases hkn : k < (pcs xs).length
    · obtain ⟨g, rfl, hg1, hg2, hgc⟩ := HLC.out (by omega)
      have hck : (pcs xs)[k]? = some (pcs xs)[k] := List.getElem?_eq_getElem hkn
      have hdr : (pcs xs).drop k = (pcs xs)[k] :: (pcs xs).drop (k + 1) := List.drop_eq_getElem_cons hkn
      generalize (pcs xs)[k] = c at *
      obtain ⟨q0, q1, q2, q3⟩ := piece_cells hgc hck
      rw [← hBw.cell (p := ⟨g, k * 4, none⟩) hg2] at q0
      rw [← hBw.cell (p := ⟨g, k * 4 + 1, none⟩) hg2] at q1
      rw [← hBw.cell (p := ⟨g, k * 4 + 2, none⟩) hg2] at q2
      rw [← hBw.cell (p := ⟨g, k * 4 + 3, none⟩) hg2] at q3
      rw [hdr] at hvd
      simp only [vd, List.all_cons] at hvd
      cases hq : decide (c.what = 0)
      · rw [hq] at q3 hvd
        simp only [Bool.false_and] at hvd
        have HV := Lib.hid hvd
        clear hvd hgc hck hdr hq
        go_wp2
        go_ret
        have hB3 : Below w2.heap.size w2 (wr.alloc (.cells #[.int .i32 c.r, .int .i64 (c.pos : Int), .int .i64 (c.n : Int), .bool false] 60)) := hBw.alloc hBw.size _
        exact ⟨ret_boolx HV.out.symm, hb2.trans (hB3.mono hb2.size)⟩
      · rw [hq] at q3 hvd
        simp only [Bool.true_and] at hvd
        have HV := Lib.hid hvd
        clear hvd hgc hck hdr hq
        go_wp2
        go_roundw
        case rel => exact ⟨k + 1, by go_num, by omega, HV.out, hBw.alloc hBw.size _⟩
        case measure => simp [intOf]; omega
    · obtain rfl : k = (pcs xs).length := by omega
      rw [List.drop_length] at hvd
      have HV := Lib.hid hvd
      clear hvd
      go_wp2
      go_ret
      exact ⟨ret_boolx HV.out.symm, hb2.trans (hBw.mono hb2.size)⟩

end Go.Proofs.Ytoccmpaonicnnaa
