/- input.Where of a byte that is there, and the reference's. -/
import Derived.Test.YtbdkiiaiadbmbaaWhere
namespace Go.Proofs.Ytbdkiiaiadbmbaa
open Go.RowKit
set_option linter.unusedVariables false
set_option linter.unusedSimpArgs false

def plV (p : Pl) : Value := .agg #[.int .i64 p.b, .int .i64 p.l, .int .i64 p.c]

set_option maxHeartbeats 1000000 in
theorem where_end (v : Value) (xs : List Int) (w : World) (hs : SlI .u8 w.heap.size w v xs) (hb : Byt xs) (hx : xs.length ≤ 1099511627776) :
    Calls Try.prog 31 #[v, .int .i64 (xs.length : Int)] w fun e w' => e = .returned (.tuple #[plV (pl (gr (wd xs)) pl0), .int .i64 0]) ∧ Below w.heap.size w w' := by
  obtain ⟨E, hE⟩ : ∃ E, pl (gr (wd xs)) pl0 = E := ⟨_, rfl⟩
  rw [hE]
  obtain ⟨W0, hW0⟩ : ∃ W0, w.alloc (.cells #[.int .i64 0, .int .i64 0, .int .i64 0] 34) = W0 := ⟨_, rfl⟩
  have hsz0 : W0.heap.size = w.heap.size + 1 := by rw [← hW0]; simp
  have hb0 : Below w.heap.size w W0 := by rw [← hW0]; exact (Below.refl _ w).alloc (Nat.le_refl _) _
  have hp0 : PlA W0 w.heap.size ⟨0, 0, 0⟩ := by rw [← hW0]; exact World.alloc_heap_new w _
  have hs0 := hs.below hb0 (Nat.le_refl _)
  have hrn := read_new w.heap.size v xs W0 hs0 (by omega) hb hx
  rw [hsz0, hE] at hrn
  obtain ⟨ao, cap, rfl, hcap, _, _⟩ := hs
  have HRN := Lib.hid hrn
  have HW := Lib.hid hW0
  have h00 : ¬ ((xs.length : Int) < 0) := by omega
  clear hrn hW0 hs0
  go_enter Try.func31, Try.ntmps31
  go_wp2_with fail
  rw [HW.out]
  refine HRN.out.mono ?_
  rintro e w2 ⟨u, hv', rfl, hD, hown, hb2⟩
  have hp2 := hp0.of (hb2.block _ (by omega))
  obtain ⟨c0, c1, c2, _, _, _, _, _⟩ := hD.cells
  obtain ⟨a0, a1, a2, f0, f1, f2⟩ := hp2.cells
  have hfin := hp2.set E.b E.l E.c
  have hcl := hfin.cells
  obtain ⟨d0, d1, d2, _, _, _⟩ := hcl
  have hB2 : Below w.heap.size w w2 := hb0.trans (hb2.mono (by omega))
  have hBf := hB2.trans ((frm_set3 (w := w2) w.heap.size (.int .i64 E.b) (.int .i64 E.l) (.int .i64 E.c)).below (n := w.heap.size) hB2.size (fun k hk e => by omega))
  have HBF := Lib.hid hBf
  clear hD hp2 hfin hown hB2 hBf HW HRN
  go_wp2
  refine bodyPost_ret (v := .tuple #[plV E, .int .i64 0]) ?_ rfl ⟨rfl, HBF.out⟩
  simp [results, Try.results31, go_sem, plV, d0, d1, d2]
  first | done | rfl

set_option maxHeartbeats 2000000 in
theorem where_mid (v : Value) (xs : List Int) (n : Int) (w : World) (hs : SlI .u8 w.heap.size w v xs) (hb : Byt xs) (hx : xs.length ≤ 1099511627776) (n0 : 0 ≤ n) (n1 : n < (xs.length : Int)) :
    Calls Try.prog 31 #[v, .int .i64 n] w fun e w' => e = .returned (.tuple #[plV (hereF n (readOf xs) pl0), .int .i64 0]) ∧ Below w.heap.size w w' := by
  obtain ⟨W0, hW0⟩ : ∃ W0, w.alloc (.cells #[.int .i64 0, .int .i64 0, .int .i64 0] 34) = W0 := ⟨_, rfl⟩
  have hsz0 : W0.heap.size = w.heap.size + 1 := by rw [← hW0]; simp
  have hb0 : Below w.heap.size w W0 := by rw [← hW0]; exact (Below.refl _ w).alloc (Nat.le_refl _) _
  have hp0 : PlA W0 w.heap.size ⟨0, 0, 0⟩ := by rw [← hW0]; exact World.alloc_heap_new w _
  have hs0 := hs.below hb0 (Nat.le_refl _)
  have hrn := read_new w.heap.size v xs W0 hs0 (by omega) hb hx
  rw [hsz0] at hrn
  obtain ⟨ao, cap, rfl, hcap, _, _⟩ := hs
  have hlen := readOf_length xs
  have hpos := read_zero (xs := xs) (by omega)
  have HRN := Lib.hid hrn
  have HW := Lib.hid hW0
  have h00 : ¬ (n < 0) := by omega
  have h01 : ¬ ((xs.length : Int) < n) := by omega
  have hne : (n == (xs.length : Int)) = false := by simp; omega
  clear hrn hW0 hs0
  go_enter Try.func31, Try.ntmps31
  go_wp2_with fail
  rw [HW.out]
  refine HRN.out.mono ?_
  rintro e w2 ⟨u, hv', rfl, _, hown, hb2⟩
  have hp2 := hp0.of (hb2.block _ (by omega))
  have hsz2 := hb2.size
  have hB2 : Below w.heap.size w w2 := hb0.trans (hb2.mono (by omega))
  obtain ⟨la, lc, rfl, hlc, hln, hlcell⟩ := owns_shape hown
  obtain ⟨g, rfl, hg1, hg2, hgc⟩ := hlcell hpos
  obtain ⟨c, hck⟩ : ∃ c, (readOf xs)[0]? = some c := ⟨_, List.getElem?_eq_getElem hpos⟩
  obtain ⟨q0, q1, q2, q3⟩ := cell_cells hgc hck
  rw [read_head hck] at q1 q2 q3
  simp only [Nat.zero_mul, Nat.zero_add] at q0 q1 q2 q3
  obtain ⟨W3, hW3⟩ : ∃ W3, w2.alloc (.cells #[.int .i64 pl0.b, .int .i64 pl0.l, .int .i64 pl0.c] 34) = W3 := ⟨_, rfl⟩
  have hp3 : PlA W3 w2.heap.size pl0 := by rw [← hW3]; exact World.alloc_heap_new w2 _
  have hb3 : Below w2.heap.size w2 W3 := by rw [← hW3]; exact (Below.refl _ w2).alloc (Nat.le_refl _) _
  have hA3 := hp2.of (hb3.block _ hp2.lt)
  have hgc3 : ∀ (j : Nat) c, (encKs (readOf xs))[j]? = some c → W3.cell? ⟨g, j, none⟩ = some c := fun j c hj => (hb3.cell (p := ⟨g, j, none⟩) hg2).trans (hgc j c hj)
  have hB3 := hB2.trans (hb3.mono hB2.size)
  have HW3 := Lib.hid hW3
  have HG3 := Lib.hid hgc3
  clear hown hlcell hgc hck hW3 hgc3 HRN HW hp2 hp0 hln hb2 hb3
  go_wp2
  rw [HW3.out]
  go_loopw [38] (fun i wr => ∃ k : Nat, i = .int .i64 k ∧ k ≤ (readOf xs).length ∧ PlA wr w2.heap.size (hereF n ((readOf xs).take k) pl0) ∧ Frm (fun i => i = w2.heap.size) W3 wr) (fun i _ => (readOf xs).length - (intOf i).toNat)
  case atStart => exact ⟨0, rfl, Nat.zero_le _, hp3, Frm.refl _ _⟩
  case round =>
    obtain ⟨k, rfl, hk, hpA, hfr⟩ := hrel
    by_cases hkn : k < (readOf xs).length
    · obtain ⟨c, hck⟩ : ∃ c, (readOf xs)[k]? = some c := ⟨_, List.getElem?_eq_getElem hkn⟩
      obtain ⟨q0, q1, q2, q3⟩ := cell_cells HG3.out hck
      have hg3 : g < W3.heap.size := by have := hp3.lt; omega
      rw [← hfr.cell (p := ⟨g, k * 4, none⟩) hg3 (by show ¬ g = _; omega)] at q0
      rw [← hfr.cell (p := ⟨g, k * 4 + 1, none⟩) hg3 (by show ¬ g = _; omega)] at q1
      rw [← hfr.cell (p := ⟨g, k * 4 + 2, none⟩) hg3 (by show ¬ g = _; omega)] at q2
      rw [← hfr.cell (p := ⟨g, k * 4 + 3, none⟩) hg3 (by show ¬ g = _; omega)] at q3
      have htk : hereF n ((readOf xs).take (k + 1)) pl0 = if c.p.b ≤ n then c.p else hereF n ((readOf xs).take k) pl0 := by
        rw [List.take_add_one, hck]; exact hereF_snoc n _ c pl0
      have hAl := hpA.lt
      generalize hereF n ((readOf xs).take k) pl0 = H at *
      obtain ⟨cr, ⟨cb, cl, cc⟩⟩ := c
      simp only at *
      have hb5 : ∀ o : Obj, Below wr.heap.size wr (wr.alloc o) := fun o => (Below.refl _ wr).alloc (Nat.le_refl _) o
      have hp5 := hpA.of ((hb5 (.cells #[.int .i32 cr, .int .i64 cb, .int .i64 cl, .int .i64 cc] 36)).block _ hAl)
      have hf5 := hfr.next (hb5 (.cells #[.int .i32 cr, .int .i64 cb, .int .i64 cl, .int .i64 cc] 36))
      obtain ⟨a0, a1, a2, f0, f1, f2⟩ := hpA.cells
      have hps := hpA.set cb cl cc
      have HPS := Lib.hid (fun o : Obj => hps.of (w' := (((wr.setCell ⟨w2.heap.size, 0, none⟩ (.int .i64 cb)).setCell ⟨w2.heap.size, 1, none⟩ (.int .i64 cl)).setCell ⟨w2.heap.size, 2, none⟩ (.int .i64 cc)).alloc o) (((Below.refl _ _).alloc (Nat.le_refl _) o).block _ hps.lt))
      have HFS := Lib.hid (fun o : Obj => ((hfr.trans (frm_set3 w2.heap.size (.int .i64 cb) (.int .i64 cl) (.int .i64 cc)) (fun _ _ h => h)).next ((Below.refl _ _).alloc (Nat.le_refl _) o)))
      clear hps
      have HP5 := Lib.hid hp5
      have HF5 := Lib.hid hf5
      clear hck hb5 hp5 hf5 hpA
      by_cases hcn : cb ≤ n
      · rw [if_pos hcn] at htk
        have HTK := Lib.hid htk
        clear htk
        go_wp2
        go_roundw
        case rel => exact ⟨k + 1, by go_num, by omega, by rw [HTK.out]; exact HPS.out _, HFS.out _⟩
        case measure => simp [intOf]; omega
      · rw [if_neg hcn] at htk
        have HTK := Lib.hid htk
        clear htk
        go_wp2
        go_roundw
        case rel => exact ⟨k + 1, by go_num, by omega, by rw [HTK.out]; exact HP5.out, HF5.out⟩
        case measure => simp [intOf]; omega
    · obtain rfl : k = (readOf xs).length := by omega
      rw [List.take_length] at hpA
      have hpW := hA3.of (hfr.block _ hA3.lt (by omega))
      obtain ⟨E, hE⟩ : ∃ E, hereF n (readOf xs) pl0 = E := ⟨_, rfl⟩
      rw [hE] at hpA
      have HE := Lib.hid hE
      obtain ⟨c0, c1, c2, _, _, _⟩ := hpA.cells
      obtain ⟨a0, a1, a2, f0, f1, f2⟩ := hpW.cells
      have hcl := (hpW.set E.b E.l E.c).cells
      obtain ⟨d0, d1, d2, _, _, _⟩ := hcl
      have hBr : Below w.heap.size w wr := hB3.trans (hfr.below (n := w.heap.size) (by have := hB3.size; omega) (fun k hk e => by have := hB2.size; omega))
      have hBf := hBr.trans ((frm_set3 (w := wr) w.heap.size (.int .i64 E.b) (.int .i64 E.l) (.int .i64 E.c)).below (n := w.heap.size) hBr.size (fun k hk e => by omega))
      have HBF := Lib.hid hBf
      clear hE hpA hpW hBf hBr hfr hA3
      go_wp2
      refine bodyPost_ret (v := .tuple #[plV E, .int .i64 0]) ?_ rfl ⟨by rw [HE.out], HBF.out⟩
      simp [results, Try.results31, go_sem, plV, d0, d1, d2]
      first | done | rfl

end Go.Proofs.Ytbdkiiaiadbmbaa
