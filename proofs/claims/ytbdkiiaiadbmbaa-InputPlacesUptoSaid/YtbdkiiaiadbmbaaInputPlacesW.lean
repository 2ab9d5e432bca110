/- sievelaw03.InputPlaces: the walk. -/
import Derived.Test.YtbdkiiaiadbmbaaClean
import Derived.Test.YtbdkiiaiadbmbaaInPl
import Derived.Test.YtbdkiiaiadbmbaaOwnIn
namespace Go.Proofs.Ytbdkiiaiadbmbaa.inputPlaces
open Go.RowKit
set_option linter.unusedVariables false
set_option linter.unusedSimpArgs false

/-- a place in a block of its own -/
def PlAt (w : World) (A : Nat) (p : Pl) : Prop := w.heap[A]? = some (.cells #[.int .i64 p.b, .int .i64 p.l, .int .i64 p.c] 34)
theorem PlAt.lt {w : World} {A : Nat} {p : Pl} (h : PlAt w A p) : A < w.heap.size := (Array.getElem?_eq_some_iff.1 h).1
theorem PlAt.cells {w : World} {A : Nat} {p : Pl} (h : PlAt w A p) : w.cell? ⟨A, 0, none⟩ = some (.int .i64 p.b) ∧ w.cell? ⟨A, 1, none⟩ = some (.int .i64 p.l) ∧ w.cell? ⟨A, 2, none⟩ = some (.int .i64 p.c) ∧
    w.frozen? ⟨A, 0, none⟩ = false ∧ w.frozen? ⟨A, 1, none⟩ = false ∧ w.frozen? ⟨A, 2, none⟩ = false := by
  unfold PlAt at h
  simp [World.cell?, World.frozen?, h]
theorem PlAt.set {w : World} {A : Nat} {p : Pl} (h : PlAt w A p) (a b c : Int) : PlAt (((w.setCell ⟨A, 0, none⟩ (.int .i64 a)).setCell ⟨A, 1, none⟩ (.int .i64 b)).setCell ⟨A, 2, none⟩ (.int .i64 c)) A ⟨a, b, c⟩ := by
  unfold PlAt at h ⊢
  simp [World.setCell, Array.getElem?_modify, h]

set_option maxRecDepth 100000 in
set_option maxHeartbeats 8000000 in
theorem walk (v : Value) (xs : List Int) (w : World) (hs : SlI .u8 w.heap.size w v xs) (hb : Byt xs) (hx : xs.length ≤ 1048576) :
    Calls Try.prog 5 #[v] w fun e w' => e = .returned (.bool true) ∧ Below w.heap.size w w' := by
  have hrl := readOf_length xs
  have hs' := hs
  obtain ⟨ao, cap, rfl, hcap, _, _⟩ := hs'
  obtain ⟨W0, hW0⟩ : ∃ W0, w.alloc (.cells #[.int .i64 (-1), .int .i64 1, .int .i64 0] 34) = W0 := ⟨_, rfl⟩
  have hsz0 : W0.heap.size = w.heap.size + 1 := by rw [← hW0]; simp
  have hb0 : Below w.heap.size w W0 := by rw [← hW0]; exact (Below.refl _ w).alloc (Nat.le_refl _) _
  have hp0 : PlAt W0 w.heap.size ⟨-1, 1, 0⟩ := by rw [← hW0]; exact World.alloc_heap_new w _
  have hs0 := hs.below hb0 (Nat.le_refl _)
  have HW := Lib.hid hW0
  clear hW0
  go_enter Try.func5, Try.ntmps5
  go_wp2_with fail
  rw [HW.out]
  refine (read_cells w.heap.size _ xs _ hs0 (by omega) hb (by omega)).mono ?_
  rintro e w2 ⟨gv, rfl, hown2, hb2⟩
  have hp2 : PlAt w2 w.heap.size ⟨-1, 1, 0⟩ := (hb2.block _ hp0.lt).trans hp0
  have hB2 := bnext hb0 hb2
  have hs2 := hs0.below hb2 (by omega)
  obtain ⟨ga, gc, rfl, hgc, _, hgcell⟩ := owns_shape hown2
  rw [hsz0] at hgcell
  have HGC := Lib.hid hgcell
  have h02 := hb2.size
  clear hown2 hgcell hb2 hs0 hp0 HW
  go_wp2
  go_loopw [4, 12] (fun nl i wr => ∃ k : Nat, i = .int .i64 k ∧ nl = .bool (prv xs k).2 ∧ k ≤ (readOf xs).length ∧ PlAt wr w.heap.size (prv xs k).1 ∧ Frm (fun i => i = w.heap.size) w2 wr) (fun _ i _ => (readOf xs).length - (intOf i).toNat)
  case atStart => exact ⟨0, rfl, rfl, Nat.zero_le _, hp2, Frm.refl _ _⟩
  case round =>
    obtain ⟨k, rfl, rfl, hk, hpA, hfr⟩ := hrel
    by_cases hkn : k < (readOf xs).length
    · obtain ⟨g, rfl, hg1, hg2, hgc⟩ := HGC.out (by omega)
      obtain ⟨c, hck⟩ : ∃ c, (readOf xs)[k]? = some c := ⟨_, List.getElem?_eq_getElem hkn⟩
      obtain ⟨q0, q1, q2, q3⟩ := cell_cells hgc hck
      rw [← hfr.cell (p := ⟨g, k * 4, none⟩) hg2 (by show ¬ g = _; omega)] at q0
      rw [← hfr.cell (p := ⟨g, k * 4 + 1, none⟩) hg2 (by show ¬ g = _; omega)] at q1
      rw [← hfr.cell (p := ⟨g, k * 4 + 2, none⟩) hg2 (by show ¬ g = _; omega)] at q2
      rw [← hfr.cell (p := ⟨g, k * 4 + 3, none⟩) hg2 (by show ¬ g = _; omega)] at q3
      obtain ⟨l1, l2, l3, l4, l5, l6, l7, l8, l9⟩ := prv_law hck
      have hnx := prv_succ hck
      have HNX := Lib.hid hnx
      have HPL := Lib.hid (fun w0 => plain_is c.r c.r w0 (Lib.hid l1))
      have hAl := hpA.lt
      have hpA2 := fun (o : Obj) => (show PlAt (wr.alloc o) w.heap.size (prv xs k).1 from (Below.heap_alloc _ _ _ hAl).trans hpA)
      generalize prv xs k = PP at *
      obtain ⟨⟨Pb, Pl, Pc⟩, nl⟩ := PP
      obtain ⟨cr, ⟨cb, cl, cc⟩⟩ := c
      simp only at *
      obtain ⟨a0, a1, a2, f0, f1, f2⟩ := hpA.cells
      have n1 : decide (cb ≤ Pb) = false := by simp; omega
      have n2 : decide ((xs.length : Int) ≤ cb) = false := by simp; omega
      have HP := Lib.hid hpA
      clear hgc hck hnx l1 hpA hpA2
      cases nl
      · obtain ⟨rfl, rfl⟩ := l5 rfl
        clear l4 l5
        go_wp2
        go_quiet ((go_at_call 9; exact quiet_left (HPL.out _)))
        have e1 : IntKind.i64.wrap (Pc + 1) = Pc + 1 := IntWalk.i64_in _ (by omega)
        have e2 : wrap64 (Pc + 1) = Pc + 1 := IntWalk.wrap64_in _ (by omega)
        go_wp2
        obtain ⟨W5, hW5⟩ : ∃ W5, (wr.alloc (.cells #[.int .i32 cr, .int .i64 cb, .int .i64 cl, .int .i64 (Pc + 1)] 36)).drewN nq = W5 := ⟨_, rfl⟩
        rw [hW5]
        have hfr5 : Frm (fun i => i = w.heap.size) w2 W5 := by rw [← hW5]; exact hfr.next ((below_drewN ((Below.refl wr.heap.size wr).alloc (Nat.le_refl _) _) nq))
        have hp5 : PlAt W5 w.heap.size ⟨Pb, cl, Pc⟩ := by rw [← hW5]; exact (Below.heap_alloc _ _ _ hAl).trans HP.out
        have hc5 : W5.heap[wr.heap.size]? = some (.cells #[.int .i32 cr, .int .i64 cb, .int .i64 cl, .int .i64 (Pc + 1)] 36) := by rw [← hW5]; exact World.alloc_heap_new wr _
        have c5 : W5.cell? ⟨wr.heap.size, 0, none⟩ = some (.int .i32 cr) ∧ W5.cell? ⟨wr.heap.size, 1, none⟩ = some (.int .i64 cb) ∧ W5.cell? ⟨wr.heap.size, 2, none⟩ = some (.int .i64 cl) ∧ W5.cell? ⟨wr.heap.size, 3, none⟩ = some (.int .i64 (Pc + 1)) := by simp [World.cell?, hc5]
        obtain ⟨d0, d1, d2, d3⟩ := c5
        obtain ⟨a0, a1, a2, f0, f1, f2⟩ := hp5.cells
        have hne5 : wr.heap.size ≠ w.heap.size := by omega
        have hfm : Try.prog.follows .mixedOrders = true := by kernel_rfl
        have h7 := hp5.set cb cl (Pc + 1)
        have hf7 : Frm (fun i => i = w.heap.size) w2 (((W5.setCell ⟨w.heap.size, 0, none⟩ (.int .i64 cb)).setCell ⟨w.heap.size, 1, none⟩ (.int .i64 cl)).setCell ⟨w.heap.size, 2, none⟩ (.int .i64 (Pc + 1))) :=
          ((hfr5.trans (Frm.setCell (S := fun i => i = w.heap.size) _ _ _ rfl) (fun _ _ h => h)).trans (Frm.setCell (S := fun i => i = w.heap.size) _ _ _ rfl) (fun _ _ h => h)).trans (Frm.setCell (S := fun i => i = w.heap.size) _ _ _ rfl) (fun _ _ h => h)
        have H7 := Lib.hid h7
        have HF7 := Lib.hid hf7
        clear h7 hf7 hp5 hfr5 hc5 hW5
        go_region_law (fail)
        all_goals
          go_simp
          go_wp2
          go_roundw
          case rel => exact ⟨k + 1, by go_num, by rw [HNX.out]; rfl, by omega, by rw [HNX.out]; exact H7.out, HF7.out.next (below_drewN (Below.refl _ _) 1)⟩
          case measure => simp [intOf]; omega
      · obtain ⟨rfl, rfl⟩ := l4 rfl
        clear l4 l5
        go_wp2
        go_quiet ((go_at_call 9; exact quiet_left (HPL.out _)))
        have e1 : IntKind.i64.wrap (Pl + 1) = Pl + 1 := IntWalk.i64_in _ (by omega)
        have e2 : wrap64 (Pl + 1) = Pl + 1 := IntWalk.wrap64_in _ (by omega)
        go_wp2
        obtain ⟨W5, hW5⟩ : ∃ W5, (wr.alloc (.cells #[.int .i32 cr, .int .i64 cb, .int .i64 (Pl + 1), .int .i64 1] 36)).drewN nq = W5 := ⟨_, rfl⟩
        rw [hW5]
        have hfr5 : Frm (fun i => i = w.heap.size) w2 W5 := by rw [← hW5]; exact hfr.next ((below_drewN ((Below.refl wr.heap.size wr).alloc (Nat.le_refl _) _) nq))
        have hp5 : PlAt W5 w.heap.size ⟨Pb, Pl, Pc⟩ := by rw [← hW5]; exact (Below.heap_alloc _ _ _ hAl).trans HP.out
        have hc5 : W5.heap[wr.heap.size]? = some (.cells #[.int .i32 cr, .int .i64 cb, .int .i64 (Pl + 1), .int .i64 1] 36) := by rw [← hW5]; exact World.alloc_heap_new wr _
        have c5 : W5.cell? ⟨wr.heap.size, 0, none⟩ = some (.int .i32 cr) ∧ W5.cell? ⟨wr.heap.size, 1, none⟩ = some (.int .i64 cb) ∧ W5.cell? ⟨wr.heap.size, 2, none⟩ = some (.int .i64 (Pl + 1)) ∧ W5.cell? ⟨wr.heap.size, 3, none⟩ = some (.int .i64 1) := by simp [World.cell?, hc5]
        obtain ⟨d0, d1, d2, d3⟩ := c5
        obtain ⟨a0, a1, a2, f0, f1, f2⟩ := hp5.cells
        have hne5 : wr.heap.size ≠ w.heap.size := by omega
        have hfm : Try.prog.follows .mixedOrders = true := by kernel_rfl
        have h7 := hp5.set cb (Pl + 1) 1
        have hf7 : Frm (fun i => i = w.heap.size) w2 (((W5.setCell ⟨w.heap.size, 0, none⟩ (.int .i64 cb)).setCell ⟨w.heap.size, 1, none⟩ (.int .i64 (Pl + 1))).setCell ⟨w.heap.size, 2, none⟩ (.int .i64 1)) :=
          ((hfr5.trans (Frm.setCell (S := fun i => i = w.heap.size) _ _ _ rfl) (fun _ _ h => h)).trans (Frm.setCell (S := fun i => i = w.heap.size) _ _ _ rfl) (fun _ _ h => h)).trans (Frm.setCell (S := fun i => i = w.heap.size) _ _ _ rfl) (fun _ _ h => h)
        have H7 := Lib.hid h7
        have HF7 := Lib.hid hf7
        clear h7 hf7 hp5 hfr5 hc5 hW5
        go_region_law (fail)
        all_goals
          go_simp
          go_wp2
          go_roundw
          case rel => exact ⟨k + 1, by go_num, by rw [HNX.out]; rfl, by omega, by rw [HNX.out]; exact H7.out, HF7.out.next (below_drewN (Below.refl _ _) 1)⟩
          case measure => simp [intOf]; omega
    · obtain rfl : k = (readOf xs).length := by omega
      have hBr : Below w.heap.size w wr := hB2.trans (hfr.below (by omega) (fun q hq e => by omega))
      have hsr := hs.below hBr (Nat.le_refl _)
      have hnT : ns (strOfNums (encs (textOf xs))) = encs (textOf xs) := ns_str (encs_byts _)
      have hTs : (strOfNums (encs (textOf xs))).size ≤ 4 * xs.length := by
        rw [strOfNums_size]
        have h1 := encs_length (textOf xs)
        have h2 := textOf_length xs
        omega
      have hcT : cleanOf (encs (textOf xs)) = textOf xs := by unfold cleanOf; rw [text_runes, map_plain]
      have htT := text_text xs
      have hlT : (encs (textOf xs)).length ≤ 4 * xs.length := by
        have h1 := encs_length (textOf xs)
        have h2 := textOf_length xs
        omega
      have htx := text_any w.heap.size _ xs wr hsr hBr.size hb (by omega)
      clear hpA hfr
      have hb4 := ns_byts (strOfNums (encs (textOf xs)))
      have hcl := fun w0 => clean_any (strOfNums (encs (textOf xs))) w0 (by omega)
      have htt : ∀ (B : Nat) (u : Value) (w0 : World), SlI .u8 B w0 u (ns (strOfNums (encs (textOf xs)))) → B ≤ w0.heap.size → Calls Try.prog 16 #[u] w0 fun e w' => e = .returned (.string (strOfNums (encs (textOf xs)))) ∧ Below w0.heap.size w0 w' := by
        intro B u w0 h1 h2
        have h := text_any B u (ns (strOfNums (encs (textOf xs)))) w0 h1 h2 hb4.byt (by rw [hnT]; omega)
        rw [hnT, htT] at h
        exact h
      rw [hnT, hcT] at hcl
      generalize strOfNums (encs (textOf xs)) = T at *
      have HTT := Lib.hid htt
      have HCL := Lib.hid hcl
      clear hnT hcT htT hb4 htt hcl
      have hby := fun w0 => run_bytes_of_string (P := Try.prog) w0 9 25 5 T Try.underlying9 Try.underlying25 Try.underlying5
      go_wp2_with fail
      refine htx.mono ?_
      rintro e w4 ⟨rfl, hb4⟩
      have hB4 := hBr.trans (hb4.mono hBr.size)
      have hs4 := (slI_bytesRow w4 T (grownCap w4 T.size 0 5) (grownCap_ge w4 T.size 0 5) 5 ((bytesRow T (grownCap w4 T.size 0 5)).size, (bytesRow T (grownCap w4 T.size 0 5)).size + 1)).below (below_drewN (Below.refl (w4.heap.size + 1) _) 1) (Nat.le_refl _)
      have hB5 : Below w.heap.size w (w4.alloc (.cells (bytesRow T (grownCap w4 T.size 0 5)) 5 ((bytesRow T (grownCap w4 T.size 0 5)).size, (bytesRow T (grownCap w4 T.size 0 5)).size + 1))).drew := (hB4.alloc hB4.size _).drew
      have HS4 := Lib.hid hs4
      clear hs4 htx hb4
      go_wp2_with fail
      refine (HTT.out _ _ _ HS4.out (by show _ ≤ (w4.alloc _).heap.size; simp)).mono ?_
      rintro e w6 ⟨rfl, hb6⟩
      have hB6 := hB5.trans (hb6.mono hB5.size)
      clear hb6 hB5 HS4 hby
      go_wp2_with fail
      refine (HCL.out _).mono ?_
      rintro e w7 ⟨rfl, hb7⟩
      have hB7 := bnext hB6 hb7
      go_wp2_with fail
      refine (lives3_yes _).mono ?_
      rintro e w8 ⟨rfl, hb8⟩
      have hB8 := bnext hB7 hb8
      go_wp2_with fail
      go_ret
      exact ⟨rfl, hB8⟩

end Go.Proofs.Ytbdkiiaiadbmbaa.inputPlaces
