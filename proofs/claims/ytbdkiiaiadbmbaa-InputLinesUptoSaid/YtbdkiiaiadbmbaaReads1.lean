/- sieveref01.Runes, Tail, Valid; utf.Valid. -/
import Derived.Test.YtbdkiiaiadbmbaaPieces
import Derived.Test.YtbdkiiaiadbmbaaMisc
import Derived.Test.YtbdkiiaiadbmbaaDecC
import Derived.Test.YtbdkiiaiadbmbaaUtfC
import Derived.WalkMore
namespace Go.Proofs.Ytbdkiiaiadbmbaa
open Go.RowKit
set_option linter.unusedVariables false
set_option linter.unusedSimpArgs false

def vd (l : List Pc) : Bool := l.all fun c => decide (c.what = 0)
def validOf (b : List Int) : Bool := vd (pcs b)

/-- the four cells of a piece -/
theorem piece_cells {W : World} {g : Nat} {l : List Pc} (h : ∀ (j : Nat) c, (encPcs l)[j]? = some c → W.cell? ⟨g, j, none⟩ = some c) {k : Nat} {e : Pc} (he : l[k]? = some e) :
    W.cell? ⟨g, k * 4, none⟩ = some (.int .i32 e.r) ∧ W.cell? ⟨g, k * 4 + 1, none⟩ = some (.int .i64 (e.pos : Int)) ∧ W.cell? ⟨g, k * 4 + 2, none⟩ = some (.int .i64 (e.n : Int)) ∧ W.cell? ⟨g, k * 4 + 3, none⟩ = some (.bool (decide (e.what = 0))) := by
  refine ⟨h _ _ ?_, h _ _ ?_, h _ _ ?_, h _ _ ?_⟩
  · have := encPcs_get he 0 (by omega); rw [Nat.add_zero] at this; rw [this]; rfl
  · rw [encPcs_get he 1 (by omega)]; rfl
  · rw [encPcs_get he 2 (by omega)]; rfl
  · rw [encPcs_get he 3 (by omega)]; rfl

set_option maxHeartbeats 1000000 in
theorem refrunes_any (B : Nat) (v : Value) (xs : List Int) (w : World) (hs : SlI .u8 B w v xs) (hB : B ≤ w.heap.size) (hb : Byt xs) (hx : xs.length ≤ 1099511627776) :
    Calls Try.prog 38 #[v] w fun e w' => ∃ u, e = .returned u ∧ w'.ownsRow w.heap.size 21 1 u (runesOf xs).length ((runesOf xs).map (Value.int .i32)) ∧ Below w.heap.size w w' := by
  obtain ⟨i0, hi, hz0, hz1, hz2⟩ := info_parts Try.infoI32
  have hplen := pcs_length xs
  go_enter Try.func38, Try.ntmps38
  go_wp2_with fail
  refine (pieces_any _ _ xs _ hs hB hb hx).mono ?_
  rintro e w2 ⟨lv, rfl, hown2, hb2⟩
  obtain ⟨la, lc, rfl, hlc, hln, hlcell⟩ := owns_shape hown2
  have HLC := Lib.hid hlcell
  clear hlcell hln hown2
  go_wp2
  go_loopw [3, 9] (fun u i wr => ∃ k : Nat, i = .int .i64 k ∧ k ≤ (pcs xs).length ∧ wr.ownsRow w2.heap.size 21 1 u k (((runesOf xs).take k).map (Value.int .i32)) ∧ Below w2.heap.size w2 wr) (fun _ i _ => (pcs xs).length - (intOf i).toNat)
  case atStart => exact ⟨0, rfl, Nat.zero_le _, World.ownsRow_nil _ _ _ _, Below.refl _ _⟩
  case round =>
    obtain ⟨k, rfl, hk, hown, hBw⟩ := hrel
    by_cases hkn : k < (pcs xs).length
    · obtain ⟨g, rfl, hg1, hg2, hgc⟩ := HLC.out (by omega)
      obtain ⟨c, hck⟩ : ∃ c, (pcs xs)[k]? = some c := ⟨_, List.getElem?_eq_getElem hkn⟩
      obtain ⟨q0, q1, q2, q3⟩ := piece_cells hgc hck
      rw [← hBw.cell (p := ⟨g, k * 4, none⟩) hg2] at q0
      rw [← hBw.cell (p := ⟨g, k * 4 + 1, none⟩) hg2] at q1
      rw [← hBw.cell (p := ⟨g, k * 4 + 2, none⟩) hg2] at q2
      rw [← hBw.cell (p := ⟨g, k * 4 + 3, none⟩) hg2] at q3
      have htk : (runesOf xs).take (k + 1) = (runesOf xs).take k ++ [c.r] := by
        rw [List.take_add_one]; simp [runesOf, hck, pcRune]
      have HO := Lib.hid hown
      have HT := Lib.hid htk
      clear hown htk hgc hck
      go_wp2_with (at_builtin; refine wpList_append_own _ rfl _ _ 69 rfl w2.heap.size 21 i0 (.int .i32 0) 1 4 Try.underlying69 hi hz0 hz1 hz2 rfl (by decide) _ _ _ rfl ((HO.out.alloc _).alloc _) ⟨wr.heap.size + 1, 0, none⟩ 1 1 [.int .i32 c.r] rfl rfl ?c1 ?c2 ?c3 ?c4 ?c5 ?_)
      try (case c1 => intro j u hj; simpa using cells_news (wr.alloc _) _ _ j u hj)
      case c2 => first | rfl | (intro u hu; simp at hu; subst hu; rfl)
      case c3 => unfold maxLen; omega
      case c4 => omega
      case c5 => have := hBw.size; simp; omega
      intro v' w3 hown3 hgrow3 _
      have hB3 : Below w2.heap.size w2 w3 := ((hBw.alloc hBw.size _).alloc (by have := hBw.size; simp; omega) _).grown hgrow3 (by have := hBw.size; simp; omega) (ownBlock_lt HO.out)
      have HO3 := Lib.hid hown3
      clear hown3 hgrow3
      go_wp2
      go_roundw
      case rel => exact ⟨k + 1, by go_num, by omega, by rw [HT.out]; simpa using HO3.out, hB3⟩
      case measure => simp [intOf]; omega
    · obtain rfl : k = (pcs xs).length := by omega
      have hl : (runesOf xs).length = (pcs xs).length := by simp [runesOf]
      rw [← hl, List.take_length] at hown
      go_wp2
      go_ret
      exact ⟨_, rfl, ownsRow_base hown hb2.size, hb2.trans (hBw.mono hb2.size)⟩

set_option maxHeartbeats 1000000 in
theorem reftail_any (B : Nat) (v : Value) (xs : List Int) (w : World) (hs : SlI .u8 B w v xs) (hB : B ≤ w.heap.size) (hb : Byt xs) (hx : xs.length ≤ 1099511627776) :
    Calls Try.prog 28 #[v] w fun e w' => e = .returned (.int .i64 (tailOf xs)) ∧ Below w.heap.size w w' := by
  have hplen := pcs_length xs
  go_enter Try.func28, Try.ntmps28
  go_wp2_with fail
  refine (pieces_any _ _ xs _ hs hB hb hx).mono ?_
  rintro e w2 ⟨lv, rfl, hown2, hb2⟩
  obtain ⟨la, lc, rfl, hlc, hln, hlcell⟩ := owns_shape hown2
  have HLC := Lib.hid hlcell
  have hs2 := hs.below hb2 hB
  obtain ⟨ao, cap, rfl, hc, hn, hr⟩ := hs2
  clear hlcell hln hown2 hs
  by_cases h0 : 0 < xs.length
  · obtain ⟨pre, c, hpc, hpos, hcase⟩ := ref_tail xs h0
    have hpl : (pcs xs).length = pre.length + 1 := by rw [hpc]; simp
    obtain ⟨g, rfl, hg1, hg2, hgc⟩ := HLC.out (by omega)
    have hck : (pcs xs)[pre.length]? = some c := by rw [hpc]; simp
    obtain ⟨q0, q1, q2, q3⟩ := piece_cells hgc hck
    obtain ⟨b, off, rfl, hbn, hrun⟩ := hr h0
    have hl : 0 < (xs.drop c.pos).length := by simp; omega
    have hlen : (xs.drop c.pos).length = xs.length - c.pos := by simp
    rw [hpl]
    rw [hpl] at hlc
    have hrun2 : Run .u8 (w2.alloc (.cells #[.int .i32 c.r, .int .i64 (c.pos : Int), .int .i64 (c.n : Int), .bool (decide (c.what = 0))] 68)) b (off + c.pos) (xs.drop c.pos) :=
      (hrun.below ((Below.refl w2.heap.size w2).alloc (Nat.le_refl _) _) (by have := hb2.size; omega)).drop c.pos
    have hgood := refgood_any b (off + c.pos) (cap - c.pos) (xs.drop c.pos) _ hrun2 (hb.drop c.pos) (by omega) hl
    rw [hlen] at hgood
    have hk4 : goodK (xs.drop c.pos) ≤ 4 := by
      by_cases h : goodK (xs.drop c.pos) = 0
      · omega
      · rw [goodK_pos h]; exact (rd_size _ hl).2.2.1
    have HG := Lib.hid hgood
    have hBa : Below w2.heap.size w2 (w2.alloc (.cells #[.int .i32 c.r, .int .i64 (c.pos : Int), .int .i64 (c.n : Int), .bool (decide (c.what = 0))] 68)) := (Below.refl w2.heap.size w2).alloc (Nat.le_refl _) _
    have hbc := hb2.trans (hBa.mono hb2.size)
    have hsz2 := hb2.size
    clear hgood hlen hl hck hpc hgc hrun hrun2 HLC hr hBa
    have hcc : ∀ w3, Drew (w2.alloc (.cells #[.int .i32 c.r, .int .i64 (c.pos : Int), .int .i64 (c.n : Int), .bool (decide (c.what = 0))] 68)) w3 → w3.cell? ⟨w2.heap.size, 1, none⟩ = some (.int .i64 (c.pos : Int)) := by
      rintro w3 ⟨q, rfl⟩; show World.cell? (w2.alloc _) _ = _; rw [World.cell?_alloc_at _ _ _ _ rfl]; rfl
    generalize goodK (xs.drop c.pos) = K at *
    generalize goodA (xs.drop c.pos) = A at *
    rcases hcase with ⟨rfl, ht⟩ | ⟨rfl, rfl, ht⟩ | ⟨rfl, hK, hKl, ht⟩
    · have HT := Lib.hid ht
      clear ht
      go_wp2_with (go_at_call 41; refine HG.out.mono ?_; rintro e w3 ⟨rfl, hd⟩; have hcx := hcc w3 hd)
      go_ret
      exact ⟨ret_intx (by rw [HT.out]; rfl), hbc.trans (hd.below _)⟩
    · have HT := Lib.hid ht
      clear ht
      go_wp2_with (go_at_call 41; refine HG.out.mono ?_; rintro e w3 ⟨rfl, hd⟩; have hcx := hcc w3 hd)
      go_ret
      exact ⟨ret_intx (by rw [HT.out]; rfl), hbc.trans (hd.below _)⟩
    · have HT := Lib.hid ht
      have hk0 : ((K : Int) == 0) = false := beq_eq_false_iff_ne.2 (by omega)
      have hk1 : decide ((c.pos : Int) + (K : Int) < (xs.length : Int)) = false := by simp; omega
      clear ht
      go_wp2_with (go_at_call 41; refine HG.out.mono ?_; rintro e w3 ⟨rfl, hd⟩; have hcx := hcc w3 hd)
      go_ret
      exact ⟨ret_intx (by rw [HT.out]), hbc.trans (hd.below _)⟩
  · obtain rfl : xs = [] := List.eq_nil_of_length_eq_zero (by omega)
    have : (pcs ([] : List Int)).length = 0 := by simp at hplen; simp [hplen]
    rw [this]
    go_wp2
    go_ret
    exact ⟨rfl, hb2⟩

end Go.Proofs.Ytbdkiiaiadbmbaa
