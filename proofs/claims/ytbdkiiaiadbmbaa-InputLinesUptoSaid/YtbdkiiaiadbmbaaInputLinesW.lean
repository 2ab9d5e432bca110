/- sievelaw03.InputLines: the walk. -/
import Derived.Test.YtbdkiiaiadbmbaaLinesB
import Derived.Test.YtbdkiiaiadbmbaaWhereC
import Derived.Test.YtbdkiiaiadbmbaaMisc
namespace Go.Proofs.Ytbdkiiaiadbmbaa.inputLines
open Go.RowKit
set_option linter.unusedVariables false
set_option linter.unusedSimpArgs false

/-- a list of strings -/
def SlS (B : Nat) (w : World) (v : Value) (l : List ByteArray) : Prop := ∃ ao cap, v = .slice ao l.length cap ∧ l.length ≤ cap ∧ (0 < l.length → ∃ g, ao = some ⟨g, 0, none⟩ ∧ g < B ∧ ∀ (j : Nat) s, l[j]? = some s → w.cell? ⟨g, j, none⟩ = some (.string s))
theorem slS_of_owns {w : World} {base : Nat} {v : Value} {l : List ByteArray} (h : w.ownsRow base 9 1 v l.length (l.map Value.string)) : SlS w.heap.size w v l := by
  obtain ⟨ao, cap, rfl, hc, _, hr⟩ := owns_shape h
  refine ⟨ao, cap, rfl, hc, fun h0 => ?_⟩
  obtain ⟨g, ha, _, hg, hcell⟩ := hr h0
  exact ⟨g, ha, hg, fun j s hj => hcell j _ (by simp [hj])⟩
theorem SlS.below {B C : Nat} {w w' : World} {v : Value} {l : List ByteArray} (h : SlS B w v l) (hb : Below C w w') (hBC : B ≤ C) : SlS B w' v l := by
  obtain ⟨ao, cap, rfl, hc, hr⟩ := h
  refine ⟨ao, cap, rfl, hc, fun h0 => ?_⟩
  obtain ⟨g, ha, hg, hcell⟩ := hr h0
  exact ⟨g, ha, hg, fun j c hj => (hb.cell (p := ⟨g, j, none⟩) (by show g < C; omega)).trans (hcell j c hj)⟩

theorem where_ok (v : Value) (xs : List Int) (n : Int) (w : World) (hs : SlI .u8 w.heap.size w v xs) (hb : Byt xs) (hx : xs.length ≤ 1099511627776) (n0 : 0 ≤ n) (n1 : n ≤ (xs.length : Int)) :
    Calls Try.prog 31 #[v, .int .i64 n] w fun e w' => e = .returned (.tuple #[plV (whereAns xs n), .int .i64 0]) ∧ Below w.heap.size w w' := by
  by_cases h : n = xs.length
  · have e : whereAns xs n = pl (gr (wd xs)) pl0 := by unfold whereAns; rw [if_pos h]
    rw [e, h]
    exact where_end v xs w hs hb hx
  · have e : whereAns xs n = hereF n (readOf xs) pl0 := by unfold whereAns; rw [if_neg h]
    rw [e]
    exact where_mid v xs n w hs hb hx n0 (by omega)

set_option maxRecDepth 100000 in
set_option maxHeartbeats 2000000 in
theorem walk (v : Value) (xs : List Int) (n : Int) (w : World) (hs : SlI .u8 w.heap.size w v xs) (hb : Byt xs) (hx : xs.length ≤ 1048576) (hn0 : -9223372036854775808 ≤ n) (hn1 : n ≤ 9223372036854775807) :
    Calls Try.prog 8 #[v, .int .i64 n] w fun e w' => e = .returned (.bool true) ∧ Below w.heap.size w w' := by
  have hrl := readOf_length xs
  have hsplit := split_encs (textOf xs) []
  rw [show encs [] = [] from rfl] at hsplit
  have hslen := split_length (textOf xs) []
  rw [textOf_length] at hslen
  obtain ⟨V, hV⟩ : ∃ V, (splitL (textOf xs) []).map (fun l => strOfNums (encs l)) = V := ⟨_, rfl⟩
  have hV1 : (splitL (textOf xs) []).map lnV = V.map Value.string := by rw [← hV, List.map_map]; rfl
  have hV2 : (splitL (encs (textOf xs)) []).map byV = V.map Value.string := by rw [hsplit, ← hV, List.map_map, List.map_map]; rfl
  have hl1 : (splitL (textOf xs) []).length = V.length := by rw [← hV]; simp
  have hl2 : (splitL (encs (textOf xs)) []).length = V.length := by rw [hsplit, ← hV]; simp
  have hVl : V.length ≤ 1048577 := by omega
  have HV1 := Lib.hid hV1
  have HV2 := Lib.hid hV2
  have HL1 := Lib.hid hl1
  have HL2 := Lib.hid hl2
  clear hV1 hV2 hl1 hl2 hV hsplit hslen
  go_enter Try.func8, Try.ntmps8
  go_wp2_with fail
  refine (lend_any _ _ xs _ hs (Nat.le_refl _) (by omega)).mono ?_
  rintro e w1 ⟨g, rfl, hg, hown1, hb1⟩
  have hB1 := hb1
  have hp1 := lent_mid hown1
  have hl1 := lent_all hown1
  have hs1 := hs.step hb1
  clear hown1 hb1 hg
  go_wp2_with fail
  refine (lines_any _ _ xs _ hp1 (Nat.le_refl _) hb (by omega)).mono ?_
  rintro e w2 ⟨gv, rfl, hown2, hb2⟩
  rw [HV1.out, HL1.out] at hown2
  have hB2 := bnext hB1 hb2
  have hp2 := hp1.step hb2
  have hl2 := hl1.step hb2
  have hs2 := hs1.step hb2
  have hS2 := slS_of_owns hown2
  clear hown2 hb2 hp1 hl1 hs1
  go_wp2_with fail
  refine (reflines_any _ _ xs _ hs2 (Nat.le_refl _) hb (by omega)).mono ?_
  rintro e w3 ⟨rv, rfl, hown3, hb3⟩
  rw [HV2.out, HL2.out] at hown3
  have hB3 := bnext hB2 hb3
  have hp3 := hp2.step hb3
  have hl3 := hl2.step hb3
  have hs3 := hs2.step hb3
  have hS3 := hS2.below hb3 (Nat.le_refl _)
  have hR3 := slS_of_owns hown3
  have hz3 := hb3.size
  clear hown3 hb3 hp2 hl2 hs2 hS2
  obtain ⟨sa, sc, rfl, hsc, hsr⟩ := hS3
  obtain ⟨ra, rc, rfl, hrc, hrr⟩ := hR3
  have HSR := Lib.hid hsr
  have HRR := Lib.hid hrr
  have hnn : ((V.length : Int) != (V.length : Int)) = false := by simp
  clear hsr hrr
  go_wp2_with fail
  go_loopw [30] (fun i wr => ∃ k : Nat, i = .int .i64 k ∧ k ≤ V.length ∧ Drew w3 wr) (fun i _ => V.length - (intOf i).toNat)
  case atStart => exact ⟨0, rfl, Nat.zero_le _, Drew.refl _⟩
  case round =>
    obtain ⟨k, rfl, hk, hd⟩ := hrel
    by_cases hkn : k < V.length
    · obtain ⟨g1, rfl, hg1, hgc1⟩ := HSR.out (by omega)
      obtain ⟨g2, rfl, hg2, hgc2⟩ := HRR.out (by omega)
      obtain ⟨c, hck⟩ : ∃ c, V[k]? = some c := ⟨_, List.getElem?_eq_getElem hkn⟩
      have a0 := (hd.cell ⟨g1, k, none⟩).trans (hgc1 k c hck)
      have b0 := (hd.cell ⟨g2, k, none⟩).trans (hgc2 k c hck)
      clear hgc1 hgc2 hck
      go_wp2
      go_quiet (fail)
      go_wp2
      go_roundw
      case rel => exact ⟨k + 1, by go_num, by omega, hd.drewN _⟩
      case measure => simp [intOf]; omega
    · obtain rfl : k = V.length := by omega
      have hb4 := hd.step
      have hB4 := bnext hB3 hb4
      have hp4 := hp3.step hb4
      have hl4 := hl3.step hb4
      have hs4 := hs3.step hb4
      clear hp3 hl3 hs3 hd hb4
      by_cases hbad : n < 0 ∨ (xs.length : Int) < n
      · go_wp2_with fail
        refine (where_bad _ xs n _ hp4 hbad).mono ?_
        rintro e w5 ⟨rfl, hb5⟩
        have hB5 := bnext hB4 hb5
        have hl5 := hl4.step hb5
        have hs5 := hs4.step hb5
        have hb6 : Below w5.heap.size w5 (w5.alloc (.cells #[.int .i64 0, .int .i64 0, .int .i64 0] 34)) := (Below.refl _ _).alloc (Nat.le_refl _) _
        have hpx : PlA (w5.alloc (.cells #[.int .i64 0, .int .i64 0, .int .i64 0] 34)) w5.heap.size ⟨0, 0, 0⟩ := World.alloc_heap_new _ _
        have hB6 := bnext hB5 hb6
        have hl6 := hl5.step hb6
        have hs6 := hs5.step hb6
        clear hp4 hl4 hs4 hb5 hl5 hs5 hb6
        go_wp2_with fail
        refine (refwhere_bad _ xs n _ hs6 hbad).mono ?_
        rintro e w7 ⟨rfl, hb7⟩
        have hB7 := bnext hB6 hb7
        have hl7 := hl6.step hb7
        have hs7 := hs6.step hb7
        have hpx7 := hpx.of (hb7.block _ hpx.lt)
        have hb8 : Below w7.heap.size w7 (w7.alloc (.cells #[.int .i64 0, .int .i64 0, .int .i64 0] 34)) := (Below.refl _ _).alloc (Nat.le_refl _) _
        have hpy : PlA (w7.alloc (.cells #[.int .i64 0, .int .i64 0, .int .i64 0] 34)) w7.heap.size ⟨0, 0, 0⟩ := World.alloc_heap_new _ _
        have hpx8 := hpx7.of (hb8.block _ hpx7.lt)
        have hB8 := bnext hB7 hb8
        have hl8 := hl7.step hb8
        have hs8 := hs7.step hb8
        obtain ⟨x0, x1, x2, _, _, _⟩ := hpx7.cells
        obtain ⟨y0, y1, y2, _, _, _⟩ := hpy.cells
        have hne := hpx7.lt
        have q1 := fun w0 => eql_place 0 0 0 0 0 0 w0
        have q2 := fun x y w0 => guard_place .eql x y #[.int .i64 0, .int .i64 0, .int .i64 0] #[.int .i64 0, .int .i64 0, .int .i64 0] w0
        simp only [and_self, decide_true] at q1
        clear hpx hl6 hs6 hb7 hl7 hs7 hpx7 hb8
        obtain ⟨w8, hw8⟩ : ∃ w8, w7.alloc (.cells #[.int .i64 0, .int .i64 0, .int .i64 0] 34) = w8 := ⟨_, rfl⟩
        have hB8' := hB8
        rw [hw8] at hB8' hl8 hs8
        have HL8 := Lib.hid hl8
        have HS8 := Lib.hid hs8
        have HW8 := Lib.hid hw8
        clear hl8 hs8 hw8 hB8
        go_wp2_with fail
        rw [HW8.out]
        refine (kept_yes w8.heap.size _ _ xs _ (HL8.out.mono (by omega)) (HS8.out.mono (by omega)) hb (by omega)).mono ?_
        rintro e w9 ⟨rfl, hd9⟩
        have hB9 := bnext hB8' hd9.step
        go_wp2_with fail
        refine (lives3_yes _).mono ?_
        rintro e w10 ⟨rfl, hb10⟩
        have hB10 := bnext hB9 hb10
        go_wp2_with fail
        go_ret
        exact ⟨rfl, hB10⟩
      · go_wp2_with fail
        refine (where_ok _ xs n _ hp4 hb (by omega) (by omega) (by omega)).mono ?_
        obtain ⟨W, hWA⟩ : ∃ W, whereAns xs n = W := ⟨_, rfl⟩
        rw [hWA]
        simp only [plV]
        rintro e w5 ⟨rfl, hb5⟩
        have hB5 := bnext hB4 hb5
        have hl5 := hl4.step hb5
        have hs5 := hs4.step hb5
        have hb6 : Below w5.heap.size w5 (w5.alloc (.cells #[.int .i64 W.b, .int .i64 W.l, .int .i64 W.c] 34)) := (Below.refl _ _).alloc (Nat.le_refl _) _
        have hpx : PlA (w5.alloc (.cells #[.int .i64 W.b, .int .i64 W.l, .int .i64 W.c] 34)) w5.heap.size W := World.alloc_heap_new _ _
        have hB6 := bnext hB5 hb6
        have hl6 := hl5.step hb6
        have hs6 := hs5.step hb6
        clear hp4 hl4 hs4 hb5 hl5 hs5 hb6
        go_wp2_with fail
        refine (refwhere_any _ xs n _ hs6 hb (by omega) (by omega) (by omega)).mono ?_
        rw [hWA]
        simp only [plV]
        rintro e w7 ⟨rfl, hb7⟩
        have hB7 := bnext hB6 hb7
        have hl7 := hl6.step hb7
        have hs7 := hs6.step hb7
        have hpx7 := hpx.of (hb7.block _ hpx.lt)
        have hb8 : Below w7.heap.size w7 (w7.alloc (.cells #[.int .i64 W.b, .int .i64 W.l, .int .i64 W.c] 34)) := (Below.refl _ _).alloc (Nat.le_refl _) _
        have hpy : PlA (w7.alloc (.cells #[.int .i64 W.b, .int .i64 W.l, .int .i64 W.c] 34)) w7.heap.size W := World.alloc_heap_new _ _
        have hpx8 := hpx7.of (hb8.block _ hpx7.lt)
        have hB8 := bnext hB7 hb8
        have hl8 := hl7.step hb8
        have hs8 := hs7.step hb8
        obtain ⟨x0, x1, x2, _, _, _⟩ := hpx7.cells
        obtain ⟨y0, y1, y2, _, _, _⟩ := hpy.cells
        have hne := hpx7.lt
        have q1 := fun w0 => eql_place W.b W.l W.c W.b W.l W.c w0
        have q2 := fun x y w0 => guard_place .eql x y #[.int .i64 W.b, .int .i64 W.l, .int .i64 W.c] #[.int .i64 W.b, .int .i64 W.l, .int .i64 W.c] w0
        simp only [and_self, decide_true] at q1
        clear hpx hl6 hs6 hb7 hl7 hs7 hpx7 hb8
        obtain ⟨w8, hw8⟩ : ∃ w8, w7.alloc (.cells #[.int .i64 W.b, .int .i64 W.l, .int .i64 W.c] 34) = w8 := ⟨_, rfl⟩
        have hB8' := hB8
        rw [hw8] at hB8' hl8 hs8
        have HL8 := Lib.hid hl8
        have HS8 := Lib.hid hs8
        have HW8 := Lib.hid hw8
        clear hl8 hs8 hw8 hB8
        go_wp2_with fail
        rw [HW8.out]
        refine (kept_yes w8.heap.size _ _ xs _ (HL8.out.mono (by omega)) (HS8.out.mono (by omega)) hb (by omega)).mono ?_
        rintro e w9 ⟨rfl, hd9⟩
        have hB9 := bnext hB8' hd9.step
        go_wp2_with fail
        refine (lives3_yes _).mono ?_
        rintro e w10 ⟨rfl, hb10⟩
        have hB10 := bnext hB9 hb10
        go_wp2_with fail
        go_ret
        exact ⟨rfl, hB10⟩

end Go.Proofs.Ytbdkiiaiadbmbaa.inputLines
