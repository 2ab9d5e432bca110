/- sieveref03.Text, Clean; input.Clean; two lists of cells compared. -/
import Derived.Test.YtbdkiiaiadbmbaaInRef
import Derived.Test.YtbdkiiaiadbmbaaGrow
namespace Go.Proofs.Ytbdkiiaiadbmbaa
open Go.RowKit
set_option linter.unusedVariables false
set_option linter.unusedSimpArgs false

set_option maxHeartbeats 1000000 in
theorem reftext3_any (B : Nat) (v : Value) (xs : List Int) (w : World) (hs : SlI .u8 B w v xs) (hB : B ≤ w.heap.size) (hb : Byt xs) (hx : xs.length ≤ 274877906944) :
    Calls Try.prog 17 #[v] w fun e w' => e = .returned (.string (strOfNums (encs (textOf xs)))) ∧ Below w.heap.size w w' := by
  obtain ⟨i0, hi, hz0, hz1, hz2⟩ := info_parts Try.infoI32
  have hplen := readOf_length xs
  go_enter Try.func17, Try.ntmps17
  go_wp2_with fail
  refine (refread_any _ _ xs _ hs hB hb (by omega)).mono ?_
  rintro e w2 ⟨lv, rfl, hown2, hb2⟩
  obtain ⟨la, lc, rfl, hlc, hln, hlcell⟩ := owns_shape hown2
  have HLC := Lib.hid hlcell
  clear hlcell hln hown2
  go_wp2
  go_loopw [3, 9] (fun u i wr => ∃ k : Nat, i = .int .i64 k ∧ k ≤ (readOf xs).length ∧ wr.ownsRow w2.heap.size 21 1 u k (((textOf xs).take k).map (Value.int .i32)) ∧ Below w2.heap.size w2 wr) (fun _ i _ => (readOf xs).length - (intOf i).toNat)
  case atStart => exact ⟨0, rfl, Nat.zero_le _, World.ownsRow_nil _ _ _ _, Below.refl _ _⟩
  case round =>
    obtain ⟨k, rfl, hk, hown, hBw⟩ := hrel
    by_cases hkn : k < (readOf xs).length
    · obtain ⟨g, rfl, hg1, hg2, hgc⟩ := HLC.out (by omega)
      obtain ⟨c, hck⟩ : ∃ c, (readOf xs)[k]? = some c := ⟨_, List.getElem?_eq_getElem hkn⟩
      obtain ⟨q0, q1, q2, q3⟩ := cell_cells hgc hck
      rw [← hBw.cell (p := ⟨g, k * 4, none⟩) hg2] at q0
      rw [← hBw.cell (p := ⟨g, k * 4 + 1, none⟩) hg2] at q1
      rw [← hBw.cell (p := ⟨g, k * 4 + 2, none⟩) hg2] at q2
      rw [← hBw.cell (p := ⟨g, k * 4 + 3, none⟩) hg2] at q3
      have htk : (textOf xs).take (k + 1) = (textOf xs).take k ++ [c.r] := by
        rw [List.take_add_one, textOf_read]; simp [hck]
      have HO := Lib.hid hown
      have HT := Lib.hid htk
      clear hown htk hgc hck
      go_wp2_with (at_builtin; refine wpList_append_own _ rfl _ _ 69 rfl w2.heap.size 21 i0 (.int .i32 0) 1 4 Try.underlying69 hi hz0 hz1 hz2 rfl (by decide) _ _ _ rfl ((HO.out.alloc _).alloc _) ⟨wr.heap.size + 1, 0, none⟩ 1 1 [.int .i32 c.r] rfl rfl ?c1 ?c2 ?c3 ?c4 ?c5 ?_)
      try (case c1 => intro j u hj; simpa using cells_news (wr.alloc _) _ _ j u hj)
      case c2 => first | rfl | (intro u hu; simp at hu; subst hu; rfl)
      case c3 => unfold maxLen; omega
      case c4 => omega
      case c5 => have := hBw.size; simp; omega
      intro v' w3 hown3 hgrow3 _
      have hB3 : Below w2.heap.size w2 w3 := ((hBw.alloc hBw.size _).alloc (by have := hBw.size; simp; omega) _).grown hgrow3 (by have := hBw.size; simp; omega) (ownBlock_lt HO.out)
      have HO3 := Lib.hid hown3
      clear hown3 hgrow3
      go_wp2
      go_roundw
      case rel => exact ⟨k + 1, by go_num, by omega, by rw [HT.out]; simpa using HO3.out, hB3⟩
      case measure => simp [intOf]; omega
    · obtain rfl : k = (readOf xs).length := by omega
      rw [← textOf_length, List.take_length] at hown
      have hown' : wr.ownsRow w2.heap.size 21 1 _ (textOf xs).length ((textOf xs).map (Value.int .i32)) := hown
      have hsl := slI_of_owns hown' (Nat.le_refl _)
      have htl : (textOf xs).length ≤ 274877906944 := by rw [textOf_length]; omega
      clear hown hown'
      go_wp2_with fail
      refine (reftext_any _ _ _ _ hsl (Nat.le_refl _) htl).mono ?_
      rintro e w4 ⟨rfl, hb4⟩
      have hB4 := (hb2.trans (hBw.mono hb2.size)).trans (hb4.mono (Nat.le_trans hb2.size hBw.size))
      go_wp2
      go_ret
      exact ⟨rfl, hB4⟩

/-- two lists with the same cells are the same -/
def SlC (B : Nat) (w : World) (v : Value) (l : List Cl) : Prop := ∃ ao cap, v = .slice ao l.length cap ∧ l.length ≤ cap ∧ (0 < l.length → ∃ g, ao = some ⟨g, 0, none⟩ ∧ g < B ∧ ∀ (j : Nat) c, (encKs l)[j]? = some c → w.cell? ⟨g, j, none⟩ = some c)
theorem slC_of_owns {w : World} {base : Nat} {v : Value} {l : List Cl} (h : w.ownsRow base 36 4 v l.length (encKs l)) : SlC w.heap.size w v l := by
  obtain ⟨ao, cap, rfl, hc, _, hr⟩ := owns_shape h
  refine ⟨ao, cap, rfl, hc, fun h0 => ?_⟩
  obtain ⟨g, ha, _, hg, hcell⟩ := hr h0
  exact ⟨g, ha, hg, hcell⟩
theorem SlC.below {B C : Nat} {w w' : World} {v : Value} {l : List Cl} (h : SlC B w v l) (hb : Below C w w') (hBC : B ≤ C) : SlC B w' v l := by
  obtain ⟨ao, cap, rfl, hc, hr⟩ := h
  refine ⟨ao, cap, rfl, hc, fun h0 => ?_⟩
  obtain ⟨g, ha, hg, hcell⟩ := hr h0
  exact ⟨g, ha, hg, fun j c hj => (hb.cell (p := ⟨g, j, none⟩) (by show g < C; omega)).trans (hcell j c hj)⟩
theorem SlC.mono {B C : Nat} {w : World} {v : Value} {l : List Cl} (h : SlC B w v l) (hBC : B ≤ C) : SlC C w v l := by
  obtain ⟨ao, cap, rfl, hc, hr⟩ := h
  refine ⟨ao, cap, rfl, hc, fun h0 => ?_⟩
  obtain ⟨g, ha, hg, hcell⟩ := hr h0
  exact ⟨g, ha, by omega, hcell⟩

set_option maxHeartbeats 2000000 in
theorem same3_yes (B : Nat) (va vb : Value) (l : List Cl) (w : World) (ha : SlC B w va l) (hb : SlC B w vb l) (hx : l.length ≤ 1099511627776) :
    Calls Try.prog 15 #[va, vb] w fun e w' => e = .returned (.bool true) ∧ Drew w w' := by
  obtain ⟨ao, ac, rfl, hac, har⟩ := ha
  obtain ⟨bo, bc, rfl, hbc, hbr⟩ := hb
  have HA := Lib.hid har
  have HB := Lib.hid hbr
  clear har hbr
  have hnn : ((l.length : Int) != (l.length : Int)) = false := by simp
  go_enter Try.func15, Try.ntmps15
  go_wp2
  go_loopw [13] (fun i wr => ∃ k : Nat, i = .int .i64 k ∧ k ≤ l.length ∧ Drew w wr) (fun i _ => l.length - (intOf i).toNat)
  case atStart => exact ⟨0, rfl, Nat.zero_le _, Drew.refl _⟩
  case round =>
    obtain ⟨k, rfl, hk, hd⟩ := hrel
    by_cases hkn : k < l.length
    · obtain ⟨g, rfl, hg, hgc⟩ := HA.out (by omega)
      obtain ⟨g', rfl, hg', hgc'⟩ := HB.out (by omega)
      obtain ⟨c, hck⟩ : ∃ c, l[k]? = some c := ⟨_, List.getElem?_eq_getElem hkn⟩
      obtain ⟨a0, a1, a2, a3⟩ := cell_cells hgc hck
      obtain ⟨b0, b1, b2, b3⟩ := cell_cells hgc' hck
      have mv : ∀ (a : Addr) (v : Value), w.cell? a = some v → wr.cell? a = some v := fun a v h => (hd.cell a).trans h
      have a0 := mv _ _ a0
      have a1 := mv _ _ a1
      have a2 := mv _ _ a2
      have a3 := mv _ _ a3
      have b0 := mv _ _ b0
      have b1 := mv _ _ b1
      have b2 := mv _ _ b2
      have b3 := mv _ _ b3
      clear hgc hgc' hck mv
      go_wp2
      refine wp_region_quiet_lit (by kernel_rfl) (by kernel_rfl) ?_
      iterate 8 go_big_quiet_step ((exact fun _ => rfl))
      go_big_quiet_want
      refine quiet_run (ops := #[]) (.bool false) (fun W hG => ?_) ?_
      · have e1 := neq_cell c.r c.p.b c.p.l c.p.c c.r c.p.b c.p.l c.p.c W
        have e2 := fun x y => guard_cell .neq x y #[.int .i32 c.r, .int .i64 c.p.b, .int .i64 c.p.l, .int .i64 c.p.c] #[.int .i32 c.r, .int .i64 c.p.b, .int .i64 c.p.l, .int .i64 c.p.c] W
        simp only [execOp, Sem.run_bind]
        simp [Act.eval, e1, e2, Result.andThen]
      go_simp
      go_big_quiet_on
      refine wpQuiet_nil ?_
      rintro W ⟨nq, rfl⟩
      go_wp2
      go_roundw
      case rel => exact ⟨k + 1, by go_num, by omega, hd.drewN _⟩
      case measure => simp [intOf]; omega
    · obtain rfl : k = l.length := by omega
      go_wp2
      go_ret
      exact ⟨rfl, hd⟩

end Go.Proofs.Ytbdkiiaiadbmbaa
