/- sieveref03.Where of a byte that is there. -/
import Derived.Test.YtbdkiiaiadbmbaaWhereB
namespace Go.Proofs.Ytbdkiiaiadbmbaa
open Go.RowKit
set_option linter.unusedVariables false
set_option linter.unusedSimpArgs false

def whereAns (xs : List Int) (n : Int) : Pl := if n = xs.length then pl (gr (wd xs)) pl0 else hereF n (readOf xs) pl0
theorem read_lt {xs : List Int} {k : Nat} {c : Cl} (h : (readOf xs)[k]? = some c) : c.p.b < xs.length := (prv_law h).2.2.1
theorem PlA.other {w : World} {A B : Nat} {p : Pl} (h : PlA w A p) (hne : A ≠ B) (a b c : Value) : PlA (((w.setCell ⟨B, 0, none⟩ a).setCell ⟨B, 1, none⟩ b).setCell ⟨B, 2, none⟩ c) A p :=
  h.of ((frm_set3 (w := w) B a b c).block A h.lt hne)

set_option maxRecDepth 100000 in
set_option maxHeartbeats 4000000 in
theorem refwhere_any (v : Value) (xs : List Int) (n : Int) (w : World) (hs : SlI .u8 w.heap.size w v xs) (hb : Byt xs) (hx : xs.length ≤ 1099511627776) (n0 : 0 ≤ n) (n1 : n ≤ (xs.length : Int)) :
    Calls Try.prog 32 #[v, .int .i64 n] w fun e w' => e = .returned (.tuple #[plV (whereAns xs n), .bool true]) ∧ Below w.heap.size w w' := by
  obtain ⟨W0, hW0⟩ : ∃ W0, ((w.alloc (.cells #[.int .i64 0, .int .i64 0, .int .i64 0] 34)).alloc (.cells #[.int .i64 0, .int .i64 1, .int .i64 1] 34)).alloc (.cells #[.int .i64 0, .int .i64 1, .int .i64 1] 34) = W0 := ⟨_, rfl⟩
  have hsz0 : W0.heap.size = w.heap.size + 3 := by rw [← hW0]; simp
  have hb0 : Below w.heap.size w W0 := by rw [← hW0]; exact (((Below.refl _ w).alloc (Nat.le_refl _) _).alloc (by simp) _).alloc (by simp; omega) _
  have hp4 : PlA W0 w.heap.size ⟨0, 0, 0⟩ := by
    rw [← hW0]
    have h : PlA (w.alloc (.cells #[.int .i64 0, .int .i64 0, .int .i64 0] 34)) w.heap.size ⟨0, 0, 0⟩ := World.alloc_heap_new w _
    have h2 := h.of (((Below.refl _ _).alloc (Nat.le_refl _) (.cells #[.int .i64 0, .int .i64 1, .int .i64 1] 34)).block _ h.lt)
    exact h2.of (((Below.refl _ _).alloc (Nat.le_refl _) _).block _ h2.lt)
  have hp6 : PlA W0 (w.heap.size + 1) pl0 := by
    rw [← hW0]
    have h : PlA ((w.alloc (.cells #[.int .i64 0, .int .i64 0, .int .i64 0] 34)).alloc (.cells #[.int .i64 0, .int .i64 1, .int .i64 1] 34)) (w.alloc (.cells #[.int .i64 0, .int .i64 0, .int .i64 0] 34)).heap.size pl0 := World.alloc_heap_new _ _
    rw [World.size_alloc] at h
    exact h.of (((Below.refl _ _).alloc (Nat.le_refl _) _).block _ h.lt)
  have hp7 : PlA W0 (w.heap.size + 1 + 1) pl0 := by
    rw [← hW0]
    have h : PlA (((w.alloc (.cells #[.int .i64 0, .int .i64 0, .int .i64 0] 34)).alloc (.cells #[.int .i64 0, .int .i64 1, .int .i64 1] 34)).alloc (.cells #[.int .i64 0, .int .i64 1, .int .i64 1] 34)) ((w.alloc (.cells #[.int .i64 0, .int .i64 0, .int .i64 0] 34)).alloc (.cells #[.int .i64 0, .int .i64 1, .int .i64 1] 34)).heap.size pl0 := World.alloc_heap_new _ _
    rw [World.size_alloc, World.size_alloc] at h
    exact h
  have hs0 := hs.below hb0 (Nat.le_refl _)
  have hrr := refread_any w.heap.size v xs W0 hs0 (by omega) hb hx
  obtain ⟨ao, cap, rfl, hcap, _, _⟩ := hs
  have hlen := readOf_length xs
  have HRR := Lib.hid hrr
  have HW := Lib.hid hW0
  have h00 : ¬ (n < 0) := by omega
  have h01 : ¬ ((xs.length : Int) < n) := by omega
  clear hrr hW0 hs0
  go_enter Try.func32, Try.ntmps32
  go_wp2_with fail
  rw [HW.out]
  refine HRR.out.mono ?_
  rintro e w2 ⟨u, rfl, hown, hb2⟩
  have q4 := hp4.of (hb2.block _ hp4.lt)
  have q6 := hp6.of (hb2.block _ hp6.lt)
  have q7 := hp7.of (hb2.block _ hp7.lt)
  have hsz2 := hb2.size
  have hB2 : Below w.heap.size w w2 := hb0.trans (hb2.mono (by omega))
  obtain ⟨la, lc, rfl, hlc, hln, hlcell⟩ := owns_shape hown
  have HLC := Lib.hid hlcell
  have HDEF : Hid (whereAns xs n = if n = xs.length then endF xs.length (readOf xs) pl0 else whereR n (readOf xs) pl0) := Lib.hid (by unfold whereAns; rw [end_place]; unfold readOf; rw [here_where])
  clear hown hlcell HRR HW hp4 hp6 hp7 hln hb2
  go_wp2
  go_loopw [24] (fun i wr => ∃ k : Nat, i = .int .i64 k ∧ k ≤ (readOf xs).length ∧ PlA wr (w.heap.size + 1) (endF xs.length ((readOf xs).take k) pl0) ∧ PlA wr (w.heap.size + 1 + 1) (lastP ((readOf xs).take k) pl0) ∧
    (∀ c ∈ (readOf xs).take k, ¬ n < c.p.b) ∧ Frm (fun i => i = w.heap.size + 1 ∨ i = w.heap.size + 1 + 1) w2 wr) (fun i _ => (readOf xs).length - (intOf i).toNat)
  case atStart => exact ⟨0, rfl, Nat.zero_le _, q6, q7, (fun c hc => by simp at hc), Frm.refl _ _⟩
  case round =>
    obtain ⟨k, rfl, hk, hp6, hp7, hall, hfr⟩ := hrel
    have hp4 := q4.of (hfr.block _ q4.lt (by omega))
    by_cases hkn : k < (readOf xs).length
    · obtain ⟨g, rfl, hg1, hg2, hgc⟩ := HLC.out (by omega)
      obtain ⟨c, hck⟩ : ∃ c, (readOf xs)[k]? = some c := ⟨_, List.getElem?_eq_getElem hkn⟩
      obtain ⟨q0, q1, q2, q3⟩ := cell_cells hgc hck
      rw [← hfr.cell (p := ⟨g, k * 4, none⟩) hg2 (by show ¬ (g = _ ∨ g = _); omega)] at q0
      rw [← hfr.cell (p := ⟨g, k * 4 + 1, none⟩) hg2 (by show ¬ (g = _ ∨ g = _); omega)] at q1
      rw [← hfr.cell (p := ⟨g, k * 4 + 2, none⟩) hg2 (by show ¬ (g = _ ∨ g = _); omega)] at q2
      rw [← hfr.cell (p := ⟨g, k * 4 + 3, none⟩) hg2 (by show ¬ (g = _ ∨ g = _); omega)] at q3
      have hlt := read_lt hck
      obtain ⟨_, _, _, _, _, l6, l7, l8, l9⟩ := prv_law hck
      have htk : (readOf xs).take (k + 1) = (readOf xs).take k ++ [c] := by rw [List.take_add_one, hck]; rfl
      have hen := endF_snoc xs.length ((readOf xs).take k) c pl0
      have hla := lastP_snoc ((readOf xs).take k) c pl0
      have hspl : readOf xs = (readOf xs).take k ++ c :: (readOf xs).drop (k + 1) := by
        have := List.take_append_drop k (readOf xs)
        rw [List.drop_eq_getElem_cons hkn, (List.getElem?_eq_some_iff.1 hck).2] at this
        exact this.symm
      have hwm := where_more n ((readOf xs).take k) (c :: (readOf xs).drop (k + 1)) pl0 hall
      rw [← hspl] at hwm
      have hAl := hp6.lt
      have hAl7 := hp7.lt
      have hAl4 := hp4.lt
      obtain ⟨b0, b1, b2, g0, g1, g2⟩ := hp7.cells
      obtain ⟨d0, d1, d2, k0, k1, k2⟩ := hp6.cells
      obtain ⟨a0, a1, a2, f0, f1, f2⟩ := hp4.cells
      have hal2 : ∀ x ∈ (readOf xs).take k ++ [c], ¬ n < c.p.b → ¬ n < x.p.b := by
        intro x hx' hc'
        rcases List.mem_append.1 hx' with h | h
        · exact hall x h
        · simp at h; subst h; exact hc'
      have HAL := Lib.hid hal2
      have HTK := Lib.hid htk
      have HEN := Lib.hid hen
      have HLA := Lib.hid hla
      have HWM := Lib.hid hwm
      clear hspl hwm hall htk hen hla hck hal2 hgc
      generalize lastP ((readOf xs).take k) pl0 = LP at *
      generalize endF xs.length ((readOf xs).take k) pl0 = EP at *
      obtain ⟨cr, ⟨cb, cl, cc⟩⟩ := c
      simp only at *
      by_cases hcn : n < cb
      · have hans : whereAns xs n = LP := by
          rw [HDEF.out, if_neg (by omega), HWM.out]
          simp only [whereR]
          rw [if_pos hcn]
        have HANS := Lib.hid hans
        have hps := hp4.set LP.b LP.l LP.c
        have hfin := hps.of (w' := (((wr.setCell ⟨w.heap.size, 0, none⟩ (.int .i64 LP.b)).setCell ⟨w.heap.size, 1, none⟩ (.int .i64 LP.l)).setCell ⟨w.heap.size, 2, none⟩ (.int .i64 LP.c)).alloc (.cells #[.int .i32 cr, .int .i64 cb, .int .i64 cl, .int .i64 cc] 36)) (((Below.refl _ _).alloc (Nat.le_refl _) _).block _ hps.lt)
        have hcl := hfin.cells
        obtain ⟨e0, e1, e2, _, _, _⟩ := hcl
        have hcl' := hps.cells
        obtain ⟨e0', e1', e2', _, _, _⟩ := hcl'
        have hBr : Below w.heap.size w wr := hB2.trans (hfr.below (n := w.heap.size) (by have := hB2.size; omega) (fun k hk e => by omega))
        have hBf := hBr.trans ((frm_set3 (w := wr) w.heap.size (.int .i64 LP.b) (.int .i64 LP.l) (.int .i64 LP.c)).below (n := w.heap.size) hBr.size (fun k hk e => by omega))
        have HBF := Lib.hid (fun o : Obj => hBf.alloc hBf.size o)
        clear hps hfin hBf hans HEN HLA HTK HAL
        go_wp2
        refine bodyPost_ret (v := .tuple #[plV LP, .bool true]) ?_ rfl ⟨by rw [HANS.out], HBF.out _⟩
        simp [results, Try.results32, go_sem, plV, e0, e1, e2, e0', e1', e2']
        first | done | rfl
      · have hs7 := hp7.set cb cl cc
        have hs6 := hp6.other (B := w.heap.size + 1 + 1) (by omega) (.int .i64 cb) (.int .i64 cl) (.int .i64 cc)
        have hf7 := hfr.trans (frm_set3 (w := wr) (w.heap.size + 1 + 1) (.int .i64 cb) (.int .i64 cl) (.int .i64 cc)) (fun i _ h => .inr h)
        have hs6a := hs6.set (xs.length : Int) cl (cc + 1)
        have hs7a := hs7.other (B := w.heap.size + 1) (by omega) (.int .i64 (xs.length : Int)) (.int .i64 cl) (.int .i64 (cc + 1))
        have hf6a := hf7.trans (frm_set3 (w.heap.size + 1) (.int .i64 (xs.length : Int)) (.int .i64 cl) (.int .i64 (cc + 1))) (fun i _ h => .inl h)
        by_cases h10 : cr = 10
        · have hb10 : (cr == 10) = true := by simp [h10]
          have hs6b := hs6a.set (xs.length : Int) (cl + 1) 1
          have hs7b := hs7a.other (B := w.heap.size + 1) (by omega) (.int .i64 (xs.length : Int)) (.int .i64 (cl + 1)) (.int .i64 1)
          have hf6b := hf6a.trans (frm_set3 (w.heap.size + 1) (.int .i64 (xs.length : Int)) (.int .i64 (cl + 1)) (.int .i64 1)) (fun i _ h => .inl h)
          have HS6 := Lib.hid (fun o : Obj => hs6b.of (((Below.refl _ _).alloc (Nat.le_refl _) o).block _ hs6b.lt))
          have HS7 := Lib.hid (fun o : Obj => hs7b.of (((Below.refl _ _).alloc (Nat.le_refl _) o).block _ hs7b.lt))
          have HF6 := Lib.hid (fun o : Obj => hf6b.next ((Below.refl _ _).alloc (Nat.le_refl _) o))
          have hst : stepP xs.length ⟨cr, ⟨cb, cl, cc⟩⟩ = ⟨xs.length, cl + 1, 1⟩ := by unfold stepP; rw [if_pos h10]
          have HST := Lib.hid hst
          clear hs7 hs6 hf7 hs6a hs7a hf6a hs6b hs7b hf6b hst h10
          go_wp2
          go_roundw
          case rel => exact ⟨k + 1, by go_num, by omega, by rw [HTK.out, HEN.out, HST.out]; exact HS6.out _, by rw [HTK.out, HLA.out]; exact HS7.out _, (by rw [HTK.out]; exact fun x hx => HAL.out x hx hcn), HF6.out _⟩
          case measure => simp [intOf]; omega
        · have hb10 : (cr == 10) = false := by simp [h10]
          have HS6 := Lib.hid (fun o : Obj => hs6a.of (((Below.refl _ _).alloc (Nat.le_refl _) o).block _ hs6a.lt))
          have HS7 := Lib.hid (fun o : Obj => hs7a.of (((Below.refl _ _).alloc (Nat.le_refl _) o).block _ hs7a.lt))
          have HF6 := Lib.hid (fun o : Obj => hf6a.next ((Below.refl _ _).alloc (Nat.le_refl _) o))
          have hst : stepP xs.length ⟨cr, ⟨cb, cl, cc⟩⟩ = ⟨xs.length, cl, cc + 1⟩ := by unfold stepP; rw [if_neg h10]
          have HST := Lib.hid hst
          clear hs7 hs6 hf7 hs6a hs7a hf6a hst h10
          go_wp2
          go_roundw
          case rel => exact ⟨k + 1, by go_num, by omega, by rw [HTK.out, HEN.out, HST.out]; exact HS6.out _, by rw [HTK.out, HLA.out]; exact HS7.out _, (by rw [HTK.out]; exact fun x hx => HAL.out x hx hcn), HF6.out _⟩
          case measure => simp [intOf]; omega
    · obtain rfl : k = (readOf xs).length := by omega
      rw [List.take_length] at hp6 hp7 hall
      have hBr : Below w.heap.size w wr := hB2.trans (hfr.below (n := w.heap.size) (by have := hB2.size; omega) (fun k hk e => by omega))
      have hwm := where_more n (readOf xs) [] pl0 hall
      rw [List.append_nil] at hwm
      obtain ⟨a0, a1, a2, f0, f1, f2⟩ := hp4.cells
      by_cases hn : n = xs.length
      · have hans : whereAns xs n = endF xs.length (readOf xs) pl0 := by rw [HDEF.out, if_pos hn]
        have HANS := Lib.hid hans
        obtain ⟨d0, d1, d2, _, _, _⟩ := hp6.cells
        generalize endF xs.length (readOf xs) pl0 = E at *
        have hps := hp4.set E.b E.l E.c
        have hcl := hps.cells
        obtain ⟨e0, e1, e2, _, _, _⟩ := hcl
        have hBf := hBr.trans ((frm_set3 (w := wr) w.heap.size (.int .i64 E.b) (.int .i64 E.l) (.int .i64 E.c)).below (n := w.heap.size) hBr.size (fun k hk e => by omega))
        have HBF := Lib.hid hBf
        have hne : (n == (xs.length : Int)) = true := by simp [hn]
        clear hps hBf hans hwm hall hn
        go_wp2
        refine bodyPost_ret (v := .tuple #[plV E, .bool true]) ?_ rfl ⟨by rw [HANS.out], HBF.out⟩
        simp [results, Try.results32, go_sem, plV, e0, e1, e2]
        first | done | rfl
      · have hans : whereAns xs n = lastP (readOf xs) pl0 := by rw [HDEF.out, if_neg hn, hwm]; rfl
        have HANS := Lib.hid hans
        obtain ⟨d0, d1, d2, _, _, _⟩ := hp7.cells
        generalize lastP (readOf xs) pl0 = E at *
        have hps := hp4.set E.b E.l E.c
        have hcl := hps.cells
        obtain ⟨e0, e1, e2, _, _, _⟩ := hcl
        have hBf := hBr.trans ((frm_set3 (w := wr) w.heap.size (.int .i64 E.b) (.int .i64 E.l) (.int .i64 E.c)).below (n := w.heap.size) hBr.size (fun k hk e => by omega))
        have HBF := Lib.hid hBf
        have hne : (n == (xs.length : Int)) = false := by simp [hn]
        clear hps hBf hans hwm hall hn
        go_wp2
        refine bodyPost_ret (v := .tuple #[plV E, .bool true]) ?_ rfl ⟨by rw [HANS.out], HBF.out⟩
        simp [results, Try.results32, go_sem, plV, e0, e1, e2]
        first | done | rfl

end Go.Proofs.Ytbdkiiaiadbmbaa
