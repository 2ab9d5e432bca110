/- sievelaw01.UtfTurned: the walk. -/
import Derived.Test.YtpbmgcnalhaajaaTurnB
import Derived.Test.YtpbmgcnalhaajaaTurnC
import Derived.Test.YtpbmgcnalhaajaaLives1
import Derived.Test.YtpbmgcnalhaajaaMisc
import Derived.Test.YtpbmgcnalhaajaaSub
import Derived.Test.YtpbmgcnalhaajaaOrd
import Derived.ControlIn
import Derived.Sort.CutIn
import Derived.Deep.RegionLaw
import Derived.Deep.RegionHeld3
namespace Go.Proofs.Ytpbmgcnalhaajaa.utfTurned
open Go.RowKit Go.Shelf
set_option linter.unusedVariables false
set_option linter.unusedSimpArgs false
attribute [local go_sem] Oper.semAt_some

theorem rev_get {xs : List Int} {p j : Nat} {e : Pc} (h : (pcs xs)[j]? = some e) (hp : (pcs xs).length - p = j + 1) : (rprs xs)[p]? = some (e.pos, e.r) := by
  have hj := (List.getElem?_eq_some_iff.1 h).1
  have hl : (prs xs).length = (pcs xs).length := by simp [prs]
  unfold rprs
  rw [List.getElem?_reverse (by omega), hl, show (pcs xs).length - 1 - p = j from by omega]
  exact prs_get h

theorem runes_le (xs : List Int) : (runesOf xs).length ≤ xs.length := by have := pcs_length xs; simpa [runesOf] using this
theorem run_sub3 {P : Program} (t e : TypeId) (ht : P.underlying t = some (.slice e)) (i : TypeInfo) (hi' : P.info? e = some i) (hs : P.cellsOf e = 1) (ao : Option Addr) (n cap hi : Nat) (h2 : hi ≤ cap) (w : World) :
    (Instr.slice t (.slice ao n cap) none (some (.int .i64 (hi : Int))) (some (.int .i64 (hi : Int)))).run P w = .ok (.slice ao hi hi) w := by
  simp [Instr.slice, Instr.sliceBounds, Instr.sliceBound, run_underlying ht, go_sem, run_sizeOf w hi', hs, h2]
  try (cases ao <;> simp [Addr.add_lit, Addr.add])

set_option maxRecDepth 100000 in
set_option maxHeartbeats 8000000 in
theorem walk (v : Value) (xs : List Int) (n : Int) (w : World) (hs : SlI .u8 w.heap.size w v xs) (hb : Byt xs) (hx : xs.length ≤ 1048576) (n0 : -9223372036854775808 ≤ n) (n1 : n ≤ 9223372036854775807) :
    Calls Try.prog 6 #[v, .int .i64 n] w fun e w' => e = .returned (.bool true) ∧ Below w.heap.size w w' := by
  have hplen := pcs_length xs
  refine (callsIn_wide (n := 3)).1 ?_
  refine callsIn_of_wp_marks Try.func6 rfl trivial ?_ rfl
  simp only [Try.ntmps6, List.size_toArray, List.length_cons, List.length_nil, Nat.reduceAdd, Nat.reduceSub, Array.replicate_succ, Array.replicate_zero, List.push_toArray, List.append_toArray, List.nil_append, List.cons_append]
  have hs0 : SlI .u8 w.heap.size (w.alloc (.cells #[.bool false] 4)) v xs := hs.below ((Below.refl w.heap.size w).alloc (Nat.le_refl _) _) (Nat.le_refl _)
  have bR := Boxed.new w 4 (.bool false)
  have hB0 : Below w.heap.size w (w.alloc (.cells #[.bool false] 4)) := (Below.refl _ w).alloc (Nat.le_refl _) _
  gi_wp2_with (fail)
  refine ⟨trivial, ?_⟩
  refine (callsIn_wide.2 (lend_any _ _ xs _ hs0 (by simp) (by omega))).mono ?_
  rintro e w1 ⟨g, rfl, hg, hown1, hb1⟩
  have hB1 := hB0.trans (hb1.mono (by simp))
  have bR1 := boxed_below bR hb1 (by simp)
  have hs1 := hs.below hB1 (Nat.le_refl _)
  have hp1 := lent_mid hown1
  have hl1 := lent_all hown1
  clear hs0 bR hB0 hb1 hown1 hg
  gi_wp2_with (fail)
  refine ⟨trivial, ?_⟩
  refine (callsIn_wide.2 (pieces_any _ _ xs _ hs1 (by have := hB1.size; omega) hb (by omega))).mono ?_
  rintro e w2 ⟨lv, rfl, hown2, hb2⟩
  have hB2 := hB1.trans (hb2.mono hB1.size)
  have bR2 := boxed_below bR1 hb2 bR1.lt
  have hp2 := hp1.step hb2
  have hl2 := hl1.step hb2
  have hs2 := hs.below hB2 (Nat.le_refl _)
  obtain ⟨la, lc, rfl, hlc, hln, hlcell⟩ := owns_shape hown2
  have HLC := Lib.hid hlcell
  clear hs1 bR1 hB1 hb2 hown2 hp1 hl1 hlcell hln
  have bL := Boxed.new w2 27 (.slice la (pcs xs).length lc)
  have hBa : Below w2.heap.size w2 (w2.alloc (.cells #[.slice la (pcs xs).length lc] 27)) := (Below.refl _ w2).alloc (Nat.le_refl _) _
  gi_wp2_with (fail)
  refine ⟨trivial, ?_⟩
  refine (callsIn_wide.2 (back_any w2.heap.size _ xs _ (hp2.below hBa (Nat.le_refl _)) (by simp) hb (by omega))).mono ?_
  rintro e w3 ⟨rfl, hbox, hsz, hbel⟩
  have hB23 := hBa.trans (hbel.mono (by simp))
  have hB3 := hB2.trans (hB23.mono hB2.size)
  have bR3 := boxed_below (bR2.alloc _) hbel (by have := bR2.lt; simp; omega)
  have bL3 := boxed_below bL hbel (by simp)
  simp only [World.size_alloc] at hsz hbox
  clear bL
  have hnf := fun w0 => run_eql_func_nil (P := Try.prog) Try.underlying30 ⟨_, _, _, rfl⟩ (.func 52) #[] #[.pointer (some ⟨w2.heap.size + 1, 0, none⟩)] w0
  have hcl3 := bL3.cell
  have hfl3 := bL3.frozen
  gi_wp2_with (fail)
  obtain ⟨W0, hW0⟩ : ∃ W0, w3.alloc (.cells #[.int .i64 ((pcs xs).length : Int)] 3) = W0 := ⟨_, rfl⟩
  rw [hW0]
  have hsz0 : W0.heap.size = w3.heap.size + 1 := by rw [← hW0]; simp
  have hb30 : Below w3.heap.size w3 W0 := by rw [← hW0]; exact (Below.refl _ w3).alloc (Nat.le_refl _) _
  have bN : Boxed W0 w3.heap.size 3 (.int .i64 ((pcs xs).length : Int)) := by rw [← hW0]; exact Boxed.new w3 _ _
  have bL0 := boxed_below bL3 hb30 bL3.lt
  have bR0 := boxed_below bR3 hb30 bR3.lt
  have hB30 := hB3.trans (hb30.mono hB3.size)
  have hbox0 := hbox.keeps (Keeps.of_below hb30 (Nat.le_refl _)) (Nat.le_refl _) hsz
  have hB20 := hB23.trans (hb30.mono hB23.size)
  have hN : (prs xs).length = (pcs xs).length := by simp [prs]
  have HN := Lib.hid hN
  have hRl : w.heap.size < w3.heap.size := bR3.lt
  have hRne : w.heap.size ≠ w3.heap.size := by omega
  clear hW0 hb30 hB23 hN hcl3 hfl3
  refine wpIn_rangeFunc_join rfl (by omega) (gf := 52) (lb := #[.pointer (some ⟨w2.heap.size + 1, 0, none⟩)]) rfl trivial (enters_of Try.func52 (by kernel_rfl) rfl)
    (back_stops (3 - 1) (by omega) (w2.heap.size + 1) (w2.heap.size + 1) w3.heap.size xs (by omega) W0 (Nat.le_refl _) hsz (by omega) hbox0) keepsK_t (keepsK_b (by omega)) (Below.refl _ _) (fun _ => rfl)
    (fun pre W => Boxed W w3.heap.size 3 (.int .i64 (((pcs xs).length - pre.length : Nat) : Int)) ∧ Below w3.heap.size W0 W)
    (fun c pre W => (c = .ret ∧ ¬ pre <+: rprs xs) ∨ (c = .exit 0 ∧ (∃ n : Int, Boxed W w3.heap.size 3 (.int .i64 n)) ∧ Below w3.heap.size W0 W))
    (fun W => (∃ n : Int, Boxed W w3.heap.size 3 (.int .i64 n)) ∧ Below w3.heap.size W0 W)
    ?hI ?hIx ?h0 ?a1 ?assign ?body ?done ?stop ?join
  case assign =>
    intro l x W K hK
    have HK := Lib.hid hK
    clear hK
    simp only [encPr]
    gi_wp2
    exact HK.out
  case body =>
    rintro l pre x W ⟨hbn, hbw⟩ hlt
    rw [HN.out] at hlt
    obtain ⟨gl, rfl, hg1, hg2, hgc⟩ := HLC.out (by omega)
    obtain ⟨j, hj⟩ : ∃ j, (pcs xs).length - pre.length = j + 1 := ⟨(pcs xs).length - pre.length - 1, by omega⟩
    have hcn := hbn.cell
    have hfn := hbn.frozen
    rw [hj, Int.natCast_add, Int.natCast_one] at hcn
    have hcl : W.cell? ⟨w2.heap.size, 0, none⟩ = some (.slice (some ⟨gl, 0, none⟩) (pcs xs).length lc) := (hbw.cell (p := ⟨w2.heap.size, 0, none⟩) (by show w2.heap.size < _; omega)).trans bL0.cell
    obtain ⟨e, he⟩ : ∃ e, (pcs xs)[j]? = some e := ⟨_, List.getElem?_eq_getElem (by omega)⟩
    have hc1 : W.cell? ⟨gl, j * 4 + 1, none⟩ = some (.int .i64 (e.pos : Int)) := by
      rw [hbw.cell (p := ⟨gl, j * 4 + 1, none⟩) (by show gl < _; omega), hB20.cell (p := ⟨gl, j * 4 + 1, none⟩) (by show gl < _; omega)]
      exact hgc _ _ (by rw [encPcs_get he 1 (by omega)]; rfl)
    have hc0 : W.cell? ⟨gl, j * 4, none⟩ = some (.int .i32 e.r) := by
      rw [hbw.cell (p := ⟨gl, j * 4, none⟩) (by show gl < _; omega), hB20.cell (p := ⟨gl, j * 4, none⟩) (by show gl < _; omega)]
      exact hgc _ _ (by have := encPcs_get he 0 (by omega); rw [Nat.add_zero] at this; rw [this]; rfl)
    have hcR : W.cell? ⟨w.heap.size, 0, none⟩ = some (.bool false) := (hbw.cell (p := ⟨w.heap.size, 0, none⟩) (by show w.heap.size < _; have := hB3.size; omega)).trans bR0.cell
    have hfR : W.frozen? ⟨w.heap.size, 0, none⟩ = false := (hbw.frozen (p := ⟨w.heap.size, 0, none⟩) (by show w.heap.size < _; have := hB3.size; omega)).trans bR0.frozen
    have hjN : j < (pcs xs).length := by omega
    have hjd : (pcs xs).length - (pre ++ [x]).length = j := by simp; omega
    have hp := rev_get he hj
    have hset : Boxed (W.setCell ⟨w3.heap.size, 0, none⟩ (.int .i64 (j : Int))) w3.heap.size 3 (.int .i64 (((pcs xs).length - (pre ++ [x]).length : Nat) : Int)) := by rw [hjd]; exact hbn.set _
    have HP := Lib.hid hp
    have HE := Lib.hid he
    have HJ := Lib.hid hj
    have HS := Lib.hid hset
    clear hp he hgc hj hjd hset
    by_cases hx1 : x.1 = e.pos
    · have hb1 : ((x.1 : Int) != (e.pos : Int)) = false := by rw [hx1]; simp
      by_cases hx2 : x.2 = e.r
      · have hb2 : (x.2 != e.r) = false := by rw [hx2]; simp
        have HX1 := Lib.hid hx1
        have HX2 := Lib.hid hx2
        clear hx1 hx2
        by_cases hk : (j : Int) % 5 = 0
        · have hk1 : ((j : Int) % 5 == 0) = true := by simpa using hk
          gi_wp2
          exact ⟨(KeepsOthers.setCell _ _ _).from _, .inr ⟨rfl, ⟨_, hbn.set _⟩, hbw.setCell (p := ⟨w3.heap.size, 0, none⟩) (Nat.le_refl _) _⟩⟩
        · have hk1 : ((j : Int) % 5 == 0) = false := by simpa using hk
          gi_wp2
          exact ⟨(KeepsOthers.setCell _ _ _).from _, Keeps.setCell _ _ _ _ _ (.inr (Nat.le_refl _)), HS.out, hbw.setCell (p := ⟨w3.heap.size, 0, none⟩) (Nat.le_refl _) _⟩
      · have hb2 : (x.2 != e.r) = true := by simpa using hx2
        gi_wp2
        exact ⟨((KeepsOthers.setCell _ _ _).trans (KeepsOthers.setCell _ _ _)).from _, .inl ⟨rfl, fun hpf => hx2 (by rw [prefix_get hpf HP.out])⟩⟩
    · have hb1 : ((x.1 : Int) != (e.pos : Int)) = true := by simp; omega
      gi_wp2
      exact ⟨((KeepsOthers.setCell _ _ _).trans (KeepsOthers.setCell _ _ _)).from _, .inl ⟨rfl, fun hpf => hx1 (by rw [prefix_get hpf HP.out])⟩⟩
  case hI => exact OwnFrom.and (Own.from (boxed_own w3.heap.size 3 (fun pre : List (Nat × Int) => .int .i64 (((pcs xs).length - pre.length : Nat) : Int))) _) (ownFrom_below (by omega) (by omega))
  case hIx =>
    rintro c s A B row (⟨h1, h2⟩ | ⟨h1, ⟨n, hn⟩, h3⟩) hg hr
    · exact .inl ⟨h1, h2⟩
    · exact .inr ⟨h1, ⟨n, (boxed_own (β := Unit) w3.heap.size 3 (fun _ => .int .i64 n)) () A B row hn hg (fun r e => (hr r e).2)⟩, ownFrom_below (β := Unit) (by omega) (by omega) () A B row h3 hg hr⟩
  case h0 => exact ⟨by simpa using bN, Below.refl _ _⟩
  case done => exact fun ys W _ h => ⟨⟨_, h.1⟩, h.2⟩
  case stop =>
    rintro c pre W hpre (⟨rfl, hno⟩ | ⟨rfl, hn⟩)
    · exact absurd hpre hno
    · exact ⟨rfl, hn⟩
  case join =>
    rintro D W hD ⟨⟨n9, hn⟩, hbw⟩ hK
    have hcn := hn.cell
    have hfn := hn.frozen
    have hclW := (boxed_below bL0 hbw (by omega)).cell
    gi_wp2
    obtain ⟨W5, hW5⟩ : ∃ W5, W.setCell ⟨w3.heap.size, 0, none⟩ (.int .i64 ((pcs xs).length : Int)) = W5 := ⟨_, rfl⟩
    rw [hW5]
    have bN5 : Boxed W5 w3.heap.size 3 (.int .i64 ((pcs xs).length : Int)) := by rw [← hW5]; exact hn.set _
    have hb05 : Below w3.heap.size W0 W5 := by rw [← hW5]; exact hbw.setCell (p := ⟨w3.heap.size, 0, none⟩) (Nat.le_refl _) _
    have hD5 : W5.heap[D]? = some (.deferred (some [])) := by rw [← hW5]; exact (Below.heap_setCell _ _ _ _ (by show D ≠ w3.heap.size; omega)).trans hK
    have hDl : D < W5.heap.size := (Array.getElem?_eq_some_iff.1 hD5).1
    have bL5 := boxed_below bL0 hb05 (by omega)
    have bR5 := boxed_below bR0 hb05 (by have := hB3.size; omega)
    have hbox5 := hbox0.keeps (Keeps.of_below hb05 (Nat.le_refl _)) (Nat.le_refl _) hsz
    have hsz5 : w3.heap.size + 1 ≤ W5.heap.size := by have := hb05.size; omega
    clear hcn hfn hclW hW5 hn hbw hK
    gi_wp2
    refine wpIn_rangeFunc_ownG rfl (by omega) (gf := 52) (lb := #[.pointer (some ⟨w2.heap.size + 1, 0, none⟩)]) rfl trivial (enters_of Try.func52 (by kernel_rfl) rfl)
      (back_stops (3 - 1) (by omega) (w2.heap.size + 1) (w2.heap.size + 1) w3.heap.size xs (by omega) W5 (Nat.le_refl _) hsz (by omega) hbox5) keepsK_t (keepsK_b (by omega)) (Below.refl _ _) (fun _ => rfl)
      (fun pre W => Boxed W w3.heap.size 3 (.int .i64 (((pcs xs).length - pre.length : Nat) : Int)) ∧ Below w3.heap.size W0 W ∧ W.heap[D]? = some (.deferred (some [])))
      (fun c pre W => (c = .ret ∧ ¬ pre <+: rprs xs))
      ?hI2 ?hIx2 ?h02 ?a2 ?assign2 ?body2 ?done2 ?stop2
    case assign2 =>
      intro l x W K hK
      have HK := Lib.hid hK
      clear hK
      simp only [encPr]
      gi_wp2
      exact HK.out
    case body2 =>
      rintro l pre x W ⟨hbn, hbw, hD1⟩ hlt
      rw [HN.out] at hlt
      obtain ⟨gl, rfl, hg1, hg2, hgc⟩ := HLC.out (by omega)
      obtain ⟨j, hj⟩ : ∃ j, (pcs xs).length - pre.length = j + 1 := ⟨(pcs xs).length - pre.length - 1, by omega⟩
      have hcn := hbn.cell
      have hfn := hbn.frozen
      rw [hj, Int.natCast_add, Int.natCast_one] at hcn
      have hcl : W.cell? ⟨w2.heap.size, 0, none⟩ = some (.slice (some ⟨gl, 0, none⟩) (pcs xs).length lc) := (hbw.cell (p := ⟨w2.heap.size, 0, none⟩) (by show w2.heap.size < _; omega)).trans bL0.cell
      obtain ⟨e, he⟩ : ∃ e, (pcs xs)[j]? = some e := ⟨_, List.getElem?_eq_getElem (by omega)⟩
      have hc1 : W.cell? ⟨gl, j * 4 + 1, none⟩ = some (.int .i64 (e.pos : Int)) := by
        rw [hbw.cell (p := ⟨gl, j * 4 + 1, none⟩) (by show gl < _; omega), hB20.cell (p := ⟨gl, j * 4 + 1, none⟩) (by show gl < _; omega)]
        exact hgc _ _ (by rw [encPcs_get he 1 (by omega)]; rfl)
      have hc0 : W.cell? ⟨gl, j * 4, none⟩ = some (.int .i32 e.r) := by
        rw [hbw.cell (p := ⟨gl, j * 4, none⟩) (by show gl < _; omega), hB20.cell (p := ⟨gl, j * 4, none⟩) (by show gl < _; omega)]
        exact hgc _ _ (by have := encPcs_get he 0 (by omega); rw [Nat.add_zero] at this; rw [this]; rfl)
      have hcR : W.cell? ⟨w.heap.size, 0, none⟩ = some (.bool false) := (hbw.cell (p := ⟨w.heap.size, 0, none⟩) (by show w.heap.size < _; have := hB3.size; omega)).trans bR0.cell
      have hfR : W.frozen? ⟨w.heap.size, 0, none⟩ = false := (hbw.frozen (p := ⟨w.heap.size, 0, none⟩) (by show w.heap.size < _; have := hB3.size; omega)).trans bR0.frozen
      have hjN : j < (pcs xs).length := by omega
      have hjd : (pcs xs).length - (pre ++ [x]).length = j := by simp; omega
      have hp := rev_get he hj
      have hset : Boxed (W.setCell ⟨w3.heap.size, 0, none⟩ (.int .i64 (j : Int))) w3.heap.size 3 (.int .i64 (((pcs xs).length - (pre ++ [x]).length : Nat) : Int)) := by rw [hjd]; exact hbn.set _
      have HP := Lib.hid hp
      have HE := Lib.hid he
      have HJ := Lib.hid hj
      have HS := Lib.hid hset
      clear hp he hgc hj hjd hset
      by_cases hx1 : x.1 = e.pos
      · have hb1 : ((x.1 : Int) != (e.pos : Int)) = false := by rw [hx1]; simp
        by_cases hx2 : x.2 = e.r
        · have hb2 : (x.2 != e.r) = false := by rw [hx2]; simp
          have HX1 := Lib.hid hx1
          have HX2 := Lib.hid hx2
          clear hx1 hx2
          gi_wp2
          exact ⟨(KeepsOthers.setCell _ _ _).from _, Keeps.setCell _ _ _ _ _ (.inr (Nat.le_refl _)), HS.out, hbw.setCell (p := ⟨w3.heap.size, 0, none⟩) (Nat.le_refl _) _, (Below.heap_setCell _ _ _ _ (by show D ≠ w3.heap.size; omega)).trans hD1⟩
        · have hb2 : (x.2 != e.r) = true := by simpa using hx2
          gi_wp2
          exact ⟨((KeepsOthers.setCell _ _ _).trans (KeepsOthers.setCell _ _ _)).from _, ⟨rfl, fun hpf => hx2 (by rw [prefix_get hpf HP.out])⟩⟩
      · have hb1 : ((x.1 : Int) != (e.pos : Int)) = true := by simp; omega
        gi_wp2
        exact ⟨((KeepsOthers.setCell _ _ _).trans (KeepsOthers.setCell _ _ _)).from _, ⟨rfl, fun hpf => hx1 (by rw [prefix_get hpf HP.out])⟩⟩
    case hI2 =>
      exact OwnFrom.and (Own.from (boxed_own w3.heap.size 3 (fun pre : List (Nat × Int) => .int .i64 (((pcs xs).length - pre.length : Nat) : Int))) _) (OwnFrom.and (fun s A B row hs hg hr => hs.grown hg (by have := hs.size; omega) (fun k e => by have := (hr k e).1; omega))
        (fun s A B row hs hg hr => (hg.block D (by exact (Array.getElem?_eq_some_iff.1 hs).1) (fun e => by have := (hr D e.symm).1; omega)).trans hs))
    case hIx2 => exact fun c s A B row h hg hr => h
    case h02 => exact ⟨by simpa using bN5, hb05, hD5⟩
    case stop2 =>
      rintro D2 c pre W hD2 hpre ⟨rfl, hno⟩ hK
      exact absurd hpre hno
    case done2 =>
      rintro D2 ys W hD2 rfl ⟨hbn, hbw, hD1⟩ hK
      have hN2 : (rprs xs).length = (pcs xs).length := by simp [rprs, prs]
      rw [hN2, Nat.sub_self] at hbn
      have hcK : W.cell? ⟨w3.heap.size, 0, none⟩ = some (.int .i64 0) := hbn.cell
      have hb2W : Below w2.heap.size w2 W := hB20.trans (hbw.mono (by omega))
      have hbWw : Below w.heap.size w W := hB2.trans (hb2W.mono hB2.size)
      have bRW := boxed_below bR0 hbw (by omega)
      have hsW := (hs2.below hb2W hB2.size).mono hB2.size
      have hpW := hp2.below hb2W (Nat.le_refl _)
      have hlW := hl2.below hb2W (Nat.le_refl _)
      have hsW2 : w2.heap.size ≤ W.heap.size := hb2W.size
      have HD1 := Lib.hid hD1
      have HK := Lib.hid hK
      have hDs := (Array.getElem?_eq_some_iff.1 hD1).1
      have hD2s := (Array.getElem?_eq_some_iff.1 hK).1
      have hKs : w3.heap.size < W.heap.size := hbn.lt
      have hplc := cutOf_place xs n
      have hle := place_le hplc
      have hat := cutOf_at hplc
      have hpart := runes_part _ hplc
      have HPART := Lib.hid hpart
      have HAT := Lib.hid hat
      clear hN2 hbn hD1 hK hbw hpart hat
      gi_wp2_with (fail)
      refine ⟨trivial, ?_⟩
      refine (callsIn_wide.2 (utfcut_any w2.heap.size _ xs n _ hpW hsW2 hb (by omega) n1)).mono ?_
      rintro e w6 ⟨rfl, hb6⟩
      have hcK6 := (hb6.cell (p := ⟨w3.heap.size, 0, none⟩) hKs).trans hcK
      have h6 := hb6.size
      gi_wp2_with (fail)
      refine ⟨trivial, ?_⟩
      refine (callsIn_wide.2 (refcut_any w2.heap.size _ xs n _ (hsW.below hb6 hsW2) (by omega) hb (by omega) n1)).mono ?_
      rintro e w7 ⟨rfl, hb7⟩
      have hb67 := bnext hb6 hb7
      have h7 := hb67.size
      gi_wp2_with (fail)
      refine ⟨trivial, ?_⟩
      refine (callsIn_wide.2 (utfcut_any w2.heap.size _ xs (cutOf xs n : Nat) _ (hpW.below hb67 hsW2) (by omega) hb (by omega) (by omega))).mono ?_
      rw [HAT.out]
      rintro e w8 ⟨rfl, hb8⟩
      have hb68 := bnext hb67 hb8
      have h8 := hb68.size
      have hs8 := hsW.below hb68 hsW2
      obtain ⟨ao, cap, rfl, hcap, hao, hrun⟩ := hs8
      clear hb6 hb7 hb8 hb67 hcK6 hcK hao hrun
      have hs8 := hsW.below hb68 hsW2
      have HPL := Lib.hid hplc
      clear hplc
      generalize cutOf xs n = c at *
      gi_upto_region 24 with (fail)
      obtain ⟨i0, hi, hz0, hz1, hz2⟩ := info_parts Try.infoU8
      have hce : Try.prog.cellsOf 5 = 1 := by kernel_rfl
      have hr3 := fun w0 => run_sub3 (P := Try.prog) 23 5 Try.underlying23 _ hi hce ao xs.length cap c (by omega) w0
      have hrf := fun w0 => run_sub_from (P := Try.prog) 23 5 Try.underlying23 _ hi hce ao xs.length cap c hle w0
      have hT : ∀ W, Grew w8 W → Calls Try.prog 26 #[.slice ao c c] W fun e W' => ∃ u, e = .returned u ∧ W'.ownsRow W.heap.size 21 1 u (runesOf (xs.take c)).length ((runesOf (xs.take c)).map (Value.int .i32)) ∧ Below W.heap.size W W' := fun W hG => by
        have h := hs8.below hG.below (by omega)
        have hl : (xs.take c).length = c := by simp; omega
        obtain ⟨ao', cap', he, q1, q2, q3⟩ := h
        injection he with e1 e2 e3
        subst e1 e3
        refine runes_any w2.heap.size _ (xs.take c) W ⟨ao, c, by rw [hl], by omega, fun e => ?_, fun h0 => ?_⟩ (by have := hG.below.size; omega) (hb.take c) (by omega)
        · have := q2 e; omega
        · obtain ⟨b, off, ha, hbl, hrn⟩ := q3 (by omega)
          exact ⟨b, off, ha, hbl, hrn.take c⟩
      have hD : ∀ W, Grew w8 W → Calls Try.prog 26 #[subV ao cap c xs.length] W fun e W' => ∃ u, e = .returned u ∧ W'.ownsRow W.heap.size 21 1 u (runesOf (xs.drop c)).length ((runesOf (xs.drop c)).map (Value.int .i32)) ∧ Below W.heap.size W W' := fun W hG => by
        have h := slI_sub (hs8.below hG.below (by omega)) hle (Nat.le_refl _)
        rw [List.take_length] at h
        exact runes_any w2.heap.size _ (xs.drop c) W h (by have := hG.below.size; omega) (hb.drop c) (by simp; omega)
      have hla := runes_le (xs.take c)
      have hlb := runes_le (xs.drop c)
      simp only [List.length_take, List.length_drop] at hla hlb
      obtain ⟨j0, hj, hy0, hy1, hy2⟩ := info_parts Try.infoI32
      have HT := Lib.hid hT
      have HD := Lib.hid hD
      clear hT hD
      have hen := enters_of (P := Try.prog) Try.func26 (by kernel_rfl) rfl
      have HEN := Lib.hid hen
      clear hen
      refine wpIn_wide.2 ?_
      refine wp_region_noPanic ?_
      go_region_law (first
        | (refine step_call1 rfl 26 _ _ rfl HEN.out (.slice ao c c) (by go_simp) (HT.out _ (Grew.drawn w8)) ?_; rintro e w9 ⟨u1, rfl, ho1, hb9⟩; refine ⟨_, rfl, ?_⟩)
        | (refine step_call1 rfl 26 _ _ rfl HEN.out (subV ao cap c xs.length) (by go_simp) (HD.out w9 (Below.trans (Grew.drawn w8) hb9)) ?_; rintro e w10 ⟨u2, rfl, ho2, hb10⟩; refine ⟨_, rfl, ?_⟩)
        | (refine step_append_sl rfl _ _ 36 rfl w8.heap.size 21 j0 (.int .i32 0) 4 Try.underlying36 hj hy0 hy1 hy2 rfl u1 _ _ (by go_simp) (ownsRow_below ho1 hb10 (Nat.le_refl _)) w10.heap.size u2 _ (by go_simp) (slI_of_owns ho2 (Nat.le_refl _)).sl (ints_one _ _) (by simp [maxLen]; omega) (by simp; omega) (Nat.le_trans (show w8.heap.size ≤ w9.heap.size from hb9.size) hb10.size) ?_; intro bv w11 hown11 hgrow11))
      refine NoPanic.normal ?_
      have hG8 : Below w8.heap.size w8 w10 := (Below.trans (Grew.drawn w8) hb9).trans (hb10.mono (show w8.heap.size ≤ w9.heap.size from hb9.size))
      have hb811 : Below w8.heap.size w8 w11 := hG8.grown hgrow11 hG8.size (fun k hk => (ho1.lt k hk).1)
      have hboth : SlI .i32 w11.heap.size w11 bv (runesOf xs) := by
        have := sl_of_owns hown11 (Nat.le_refl _)
        rw [← List.map_append, HPART.out] at this
        exact this.slI
      have hbW11 := hb68.trans (hb811.mono h8)
      have hs11 := hsW.below hbW11 hsW2
      have hl11 := hlW.below hbW11 hsW2
      have h11 := hbW11.size
      have HBO := Lib.hid hboth
      clear hown11 hgrow11 ho1 ho2 hb9 hb10 hG8 hb811 hboth
      go_simp
      gi_wp2_with (fail)
      refine ⟨trivial, ?_⟩
      refine (callsIn_wide.2 (runes_any w2.heap.size _ xs _ hs11 (by omega) hb (by omega))).mono ?_
      rintro e w12 ⟨u3, rfl, ho3, hb12⟩
      have hbW12 := bnext hbW11 hb12
      have hs12 := hs11.below hb12 (by omega)
      have hl12 := hl11.below hb12 (by omega)
      have h12 := hbW12.size
      have hbo12 := HBO.out.step hb12
      have hr12 : SlI .i32 w12.heap.size w12 u3 (runesOf xs) := slI_of_owns ho3 (Nat.le_refl _)
      have hrl := runes_le xs
      clear hb12 ho3 hs11 hl11
      gi_wp2_with (fail)
      refine ⟨trivial, ?_⟩
      refine (callsIn_wide.2 (same_yes _ _ _ (runesOf xs) _ hbo12 hr12 (by omega))).mono ?_
      rintro e w13 ⟨rfl, hd13⟩
      have hb13 := hd13.step
      have hbW13 := bnext hbW12 hb13
      have hs13 := hs12.below hb13 (by omega)
      have hl13 := hl12.below hb13 (by omega)
      have h13 := hbW13.size
      clear hb13 hd13 hs12 hl12 hbo12 hr12
      gi_wp2_with (fail)
      refine ⟨trivial, ?_⟩
      refine (callsIn_wide.2 (kept_yes w2.heap.size _ _ xs _ hl13 hs13 hb (by omega))).mono ?_
      rintro e w14 ⟨rfl, hd14⟩
      have hb14 := hd14.step
      have hbW14 := bnext hbW13 hb14
      clear hb14 hd14 hs13 hl13
      gi_wp2_with (fail)
      refine ⟨trivial, ?_⟩
      refine (callsIn_wide.2 (lives_yes _)).mono ?_
      rintro e w15 ⟨rfl, hb15⟩
      have hbW15 := bnext hbW14 hb15
      have bR15 := boxed_below bRW hbW15 bRW.lt
      have hc15 := bR15.cell
      have hf15 := bR15.frozen
      clear hb15
      gi_wp2_with (fail)
      have hD15 : (w15.setCell ⟨w.heap.size, 0, none⟩ (.bool true)).heap[D]? = some (.deferred (some [])) := (Below.heap_setCell _ _ _ _ (by show D ≠ w.heap.size; omega)).trans ((hbW15.block D hDs).trans HD1.out)
      have hD25 : (w15.setCell ⟨w.heap.size, 0, none⟩ (.bool true)).heap[D2]? = some (.deferred (some [])) := (Below.heap_setCell _ _ _ _ (by show D2 ≠ w.heap.size; omega)).trans ((hbW15.block D2 hD2s).trans HK.out)
      have hfin := hbWw.trans (hbW15.mono hbWw.size)
      exact leaves_mark2 hD25 hD15 (by omega) ⟨_, results_box_bool rfl Try.underlying4 rfl (boxed_putObj (boxed_putObj (bR15.set _) _ (by omega)) _ (by omega)), rfl,
        below_putObj (below_putObj (hfin.setCell (p := ⟨w.heap.size, 0, none⟩) (Nat.le_refl _) _) _ (by omega) (by have := hfin.size; simp; omega)) _ (by omega) (by have := hfin.size; simp; omega)⟩

end Go.Proofs.Ytpbmgcnalhaajaa.utfTurned
