/- sievelaw01.UtfAll: the call returns true, for all bytes and any stop. Condition: what it reads is of bulk at most 1048576. -/
import Derived.Test.YtpbmgcnalhaajaaUtfB
import Derived.Test.YtpbmgcnalhaajaaPieces
import Derived.Test.YtpbmgcnalhaajaaLives1
import Derived.Test.YtpbmgcnalhaajaaMisc
import Derived.Test.YtpbmgcnalhaajaaJoin
namespace Go.Proofs.Ytpbmgcnalhaajaa.utfAll
open Go.RowKit Go.Shelf
set_option linter.unusedVariables false
set_option linter.unusedSimpArgs false
attribute [local go_sem] Oper.semAt_some

set_option maxRecDepth 100000 in
set_option maxHeartbeats 4000000 in
theorem walk (v : Value) (xs : List Int) (st : Int) (w : World) (hs : SlI .u8 w.heap.size w v xs) (hb : Byt xs) (hx : xs.length ≤ 1099511627776) (s0 : 0 ≤ st) (s1 : st ≤ 18446744073709551615) :
    Calls Try.prog 4 #[v, .int .u64 st] w fun e w' => e = .returned (.bool true) ∧ Below w.heap.size w w' := by
  refine (callsIn_wide (n := 3)).1 ?_
  refine callsIn_of_wp_marks Try.func4 rfl trivial ?_ rfl
  simp only [Try.ntmps4, List.size_toArray, List.length_cons, List.length_nil, Nat.reduceAdd, Nat.reduceSub, Array.replicate_succ, Array.replicate_zero, List.push_toArray, List.append_toArray, List.nil_append, List.cons_append]
  have hs0 : SlI .u8 w.heap.size (w.alloc (.cells #[.bool false] 4)) v xs := hs.below ((Below.refl w.heap.size w).alloc (Nat.le_refl _) _) (Nat.le_refl _)
  have bR := Boxed.new w 4 (.bool false)
  have hB0 : Below w.heap.size w (w.alloc (.cells #[.bool false] 4)) := (Below.refl _ w).alloc (Nat.le_refl _) _
  gi_wp2_with (fail)
  refine ⟨trivial, ?_⟩
  refine (callsIn_wide.2 (lend_any _ _ xs _ hs0 (by simp) hx)).mono ?_
  rintro e w1 ⟨g, rfl, hg, hown1, hb1⟩
  have hB1 := hB0.trans (hb1.mono (by simp))
  have bR1 := boxed_below bR hb1 (by simp)
  have hs1 := hs.below hB1 (Nat.le_refl _)
  have HW1 := Lib.hid hown1
  clear hs0 bR hB0 hb1 hown1
  gi_wp2_with (fail)
  refine ⟨trivial, ?_⟩
  refine (callsIn_wide.2 (pieces_any _ _ xs _ hs1 (by have := hB1.size; omega) hb hx)).mono ?_
  rintro e w2 ⟨lv, rfl, hown2, hb2⟩
  have hB2 := hB1.trans (hb2.mono hB1.size)
  have bR2 := boxed_below bR1 hb2 bR1.lt
  have HW2 := Lib.hid (ownsRow_below HW1.out hb2 (Nat.le_refl _))
  have HL2 := Lib.hid hown2
  have hs2 := hs.below hB2 (Nat.le_refl _)
  obtain ⟨la, lc, rfl, hlc, hln, hlcell⟩ := owns_shape HL2.out
  have HLC := Lib.hid hlcell
  clear hs1 bR1 hB1 hb2 hown2 HW1 hlcell hln
  have bL := Boxed.new w2 27 (.slice la (pcs xs).length lc)
  have hBa : Below w2.heap.size w2 (w2.alloc (.cells #[.slice la (pcs xs).length lc] 27)) := (Below.refl _ w2).alloc (Nat.le_refl _) _
  gi_wp2_with (fail)
  refine ⟨trivial, ?_⟩
  refine (callsIn_wide.2 (all_any w2.heap.size _ xs _ ((lent_mid HW2.out).below hBa (Nat.le_refl _)) (by simp) hx)).mono ?_
  rintro e w3 ⟨rfl, hbox, hsz, hbel⟩
  have hB23 := hBa.trans (hbel.mono (by simp))
  have hB3 := hB2.trans (hB23.mono hB2.size)
  have bR3 := boxed_below (bR2.alloc _) hbel (by have := bR2.lt; simp; omega)
  have bL3 := boxed_below bL hbel (by simp)
  obtain ⟨u, hcu, hu, hlow⟩ := hbox
  simp only [World.size_alloc] at hcu hlow hsz
  clear bL
  have hnf := fun w0 => run_eql_func_nil (P := Try.prog) Try.underlying30 ⟨_, _, _, rfl⟩ (.func 48) #[] #[.pointer (some ⟨w2.heap.size + 1, 0, none⟩)] w0
  gi_wp2_with (fail)
  obtain ⟨W0, hW0⟩ : ∃ W0, (w3.alloc (.cells #[.int .i64 (st % 50)] 3)).alloc (.cells #[.int .i64 0] 3) = W0 := ⟨_, rfl⟩
  rw [hW0]
  have hsz0 : W0.heap.size = w3.heap.size + 2 := by rw [← hW0]; simp
  have hb30 : Below w3.heap.size w3 W0 := by rw [← hW0]; exact ((Below.refl _ w3).alloc (Nat.le_refl _) _).alloc (by simp) _
  have bN : Boxed W0 (w3.heap.size + 1) 3 (.int .i64 0) := by rw [← hW0]; have := Boxed.new (w3.alloc (.cells #[.int .i64 (st % 50)] 3)) 3 (.int .i64 0); simpa using this
  have bK : Boxed W0 w3.heap.size 3 (.int .i64 (st % 50)) := by rw [← hW0]; exact (Boxed.new w3 _ _).alloc _
  have bL0 := boxed_below bL3 hb30 bL3.lt
  have bR0 := boxed_below bR3 hb30 bR3.lt
  have hB30 := hB3.trans (hb30.mono hB3.size)
  have hcu0 : W0.cell? ⟨w2.heap.size + 1, 0, none⟩ = some u := (hb30.cell (p := ⟨w2.heap.size + 1, 0, none⟩) hsz).trans hcu
  have hu0 := hu.below hb30 (Nat.le_refl _)
  have hB20 := hB23.trans (hb30.mono hB23.size)
  clear hW0 hb30 hB23
  refine wpIn_rangeFunc_join rfl (by omega) (gf := 48) (lb := #[.pointer (some ⟨w2.heap.size + 1, 0, none⟩)]) rfl trivial (enters_of Try.func48 (by kernel_rfl) rfl)
    (all_stops (3 - 1) (by omega) (w2.heap.size + 1) (w2.heap.size + 1) w3.heap.size u xs hb hx W0 (Nat.le_refl _) hsz (fun b hb => by have := hlow b hb; omega) (by omega) hcu0 hu0) keepsK_t (keepsK_b (by omega)) (Below.refl _ _) (fun _ => rfl)
    (fun pre W => Boxed W (w3.heap.size + 1) 3 (.int .i64 (pre.length : Int)) ∧ Below (w3.heap.size + 1) W0 W)
    (fun c pre W => (c = .ret ∧ ¬ pre <+: prs xs) ∨ (c = .exit 0 ∧ (∃ n : Int, Boxed W (w3.heap.size + 1) 3 (.int .i64 n)) ∧ Below (w3.heap.size + 1) W0 W))
    (fun W => (∃ n : Int, Boxed W (w3.heap.size + 1) 3 (.int .i64 n)) ∧ Below (w3.heap.size + 1) W0 W)
    ?hI ?hIx ?h0 ?a1 ?assign ?body ?done ?stop ?join
  case assign =>
    intro l x W K hK
    have HK := Lib.hid hK
    clear hK
    simp only [encPr]
    gi_wp2
    exact HK.out
  case body =>
    rintro l pre x W ⟨hbn, hbw⟩ hlt
    have hN : (prs xs).length = (pcs xs).length := by simp [prs]
    rw [hN] at hlt
    obtain ⟨gl, rfl, hg1, hg2, hgc⟩ := HLC.out (by omega)
    have hcn := hbn.cell
    have hfn := hbn.frozen
    have hcl : W.cell? ⟨w2.heap.size, 0, none⟩ = some (.slice (some ⟨gl, 0, none⟩) (pcs xs).length lc) := (hbw.cell (p := ⟨w2.heap.size, 0, none⟩) (by show w2.heap.size < _; omega)).trans bL0.cell
    have hck : W.cell? ⟨w3.heap.size, 0, none⟩ = some (.int .i64 (st % 50)) := (hbw.cell (p := ⟨w3.heap.size, 0, none⟩) (by show w3.heap.size < _; omega)).trans bK.cell
    obtain ⟨e, he⟩ : ∃ e, (pcs xs)[pre.length]? = some e := ⟨_, List.getElem?_eq_getElem hlt⟩
    have hplen := pcs_length xs
    have hc1 : W.cell? ⟨gl, pre.length * 4 + 1, none⟩ = some (.int .i64 (e.pos : Int)) := by
      rw [hbw.cell (p := ⟨gl, pre.length * 4 + 1, none⟩) (by show gl < _; omega), hB20.cell (p := ⟨gl, pre.length * 4 + 1, none⟩) (by show gl < _; omega)]
      exact hgc _ _ (by rw [encPcs_get he 1 (by omega)]; rfl)
    have hc0 : W.cell? ⟨gl, pre.length * 4, none⟩ = some (.int .i32 e.r) := by
      rw [hbw.cell (p := ⟨gl, pre.length * 4, none⟩) (by show gl < _; omega), hB20.cell (p := ⟨gl, pre.length * 4, none⟩) (by show gl < _; omega)]
      exact hgc _ _ (by have := encPcs_get he 0 (by omega); rw [Nat.add_zero] at this; rw [this]; rfl)
    have hcR : W.cell? ⟨w.heap.size, 0, none⟩ = some (.bool false) := (hbw.cell (p := ⟨w.heap.size, 0, none⟩) (by show w.heap.size < _; have := hB3.size; omega)).trans bR0.cell
    have hfR : W.frozen? ⟨w.heap.size, 0, none⟩ = false := (hbw.frozen (p := ⟨w.heap.size, 0, none⟩) (by show w.heap.size < _; have := hB3.size; omega)).trans bR0.frozen
    have hp := prs_get he
    have HP := Lib.hid hp
    have HE := Lib.hid he
    clear hp he hgc
    by_cases hx1 : x.1 = e.pos
    · have hb1 : ((x.1 : Int) != (e.pos : Int)) = false := by rw [hx1]; simp
      by_cases hx2 : x.2 = e.r
      · have hb2 : (x.2 != e.r) = false := by rw [hx2]; simp
        have HX1 := Lib.hid hx1
        have HX2 := Lib.hid hx2
        clear hx1 hx2
        by_cases hk : st % 50 < (pre.length : Int) + 1
        · gi_wp2
          exact ⟨(KeepsOthers.setCell _ _ _).from _, .inr ⟨rfl, ⟨_, hbn.set _⟩, hbw.setCell (p := ⟨w3.heap.size + 1, 0, none⟩) (Nat.le_refl _) _⟩⟩
        · gi_wp2
          exact ⟨(KeepsOthers.setCell _ _ _).from _, Keeps.setCell _ _ _ _ _ (.inr (by show w3.heap.size ≤ w3.heap.size + 1; omega)), by have := hbn.set (.int .i64 ((pre.length : Int) + 1)); simpa using this, hbw.setCell (p := ⟨w3.heap.size + 1, 0, none⟩) (Nat.le_refl _) _⟩
      · have hb2 : (x.2 != e.r) = true := by simpa using hx2
        gi_wp2
        exact ⟨(KeepsOthers.setCell _ _ _).from _, .inl ⟨rfl, fun hpf => hx2 (by rw [prefix_get hpf HP.out])⟩⟩
    · have hb1 : ((x.1 : Int) != (e.pos : Int)) = true := by simp; omega
      gi_wp2
      exact ⟨(KeepsOthers.setCell _ _ _).from _, .inl ⟨rfl, fun hpf => hx1 (by rw [prefix_get hpf HP.out])⟩⟩
  case hI => exact OwnFrom.and (Own.from (boxed_own (w3.heap.size + 1) 3 (fun pre : List (Nat × Int) => .int .i64 (pre.length : Int))) _) (ownFrom_below (by omega) (by omega))
  case hIx =>
    rintro c s A B row (⟨h1, h2⟩ | ⟨h1, ⟨n, hn⟩, h3⟩) hg hr
    · exact .inl ⟨h1, h2⟩
    · exact .inr ⟨h1, ⟨n, (boxed_own (β := Unit) (w3.heap.size + 1) 3 (fun _ => .int .i64 n)) () A B row hn hg (fun r e => (hr r e).2)⟩, ownFrom_below (β := Unit) (by omega) (by omega) () A B row h3 hg hr⟩
  case h0 => exact ⟨bN, Below.refl _ _⟩
  case done => exact fun ys W _ h => ⟨⟨_, h.1⟩, h.2⟩
  case stop =>
    rintro c pre W hpre (⟨rfl, hno⟩ | ⟨rfl, hn⟩)
    · exact absurd hpre hno
    · exact ⟨rfl, hn⟩
  case join =>
    rintro D W hD ⟨⟨n, hn⟩, hbw⟩ hK
    have hcn := hn.cell
    have hfn := hn.frozen
    gi_wp2
    obtain ⟨W5, hW5⟩ : ∃ W5, W.setCell ⟨w3.heap.size + 1, 0, none⟩ (.int .i64 0) = W5 := ⟨_, rfl⟩
    rw [hW5]
    have bN5 : Boxed W5 (w3.heap.size + 1) 3 (.int .i64 0) := by rw [← hW5]; exact hn.set _
    have hb05 : Below (w3.heap.size + 1) W0 W5 := by rw [← hW5]; exact hbw.setCell (p := ⟨w3.heap.size + 1, 0, none⟩) (Nat.le_refl _) _
    have hD5 : W5.heap[D]? = some (.deferred (some [])) := by rw [← hW5]; exact (Below.heap_setCell _ _ _ _ (by show D ≠ w3.heap.size + 1; omega)).trans hK
    have hDl : D < W5.heap.size := (Array.getElem?_eq_some_iff.1 hD5).1
    have bK5 := boxed_below bK hb05 (by omega)
    have bL5 := boxed_below bL0 hb05 (by omega)
    have bR5 := boxed_below bR0 hb05 (by have := hB3.size; omega)
    have hcu5 : W5.cell? ⟨w2.heap.size + 1, 0, none⟩ = some u := (hb05.cell (p := ⟨w2.heap.size + 1, 0, none⟩) (by show w2.heap.size + 1 < _; omega)).trans hcu0
    have hu5 := hu0.below hb05 (by omega)
    have hsz5 : w3.heap.size + 2 ≤ W5.heap.size := by have := hb05.size; omega
    clear hcn hfn hW5 hn hbw hK
    gi_wp2
    refine wpIn_rangeFunc_ownG rfl (by omega) (gf := 48) (lb := #[.pointer (some ⟨w2.heap.size + 1, 0, none⟩)]) rfl trivial (enters_of Try.func48 (by kernel_rfl) rfl)
      (all_stops (3 - 1) (by omega) (w2.heap.size + 1) (w2.heap.size + 1) w3.heap.size u xs hb hx W5 (Nat.le_refl _) hsz (fun b hb => by have := hlow b hb; omega) (by omega) hcu5 hu5) keepsK_t (keepsK_b (by omega)) (Below.refl _ _) (fun _ => rfl)
      (fun pre W => Boxed W (w3.heap.size + 1) 3 (.int .i64 (pre.length : Int)) ∧ Below (w3.heap.size + 1) W0 W ∧ W.heap[D]? = some (.deferred (some [])))
      (fun c pre W => (c = .ret ∧ ¬ pre <+: prs xs))
      ?hI2 ?hIx2 ?h02 ?a2 ?assign2 ?body2 ?done2 ?stop2
    case assign2 =>
      intro l x W K hK
      have HK := Lib.hid hK
      clear hK
      simp only [encPr]
      gi_wp2
      exact HK.out
    case body2 =>
      rintro l pre x W ⟨hbn, hbw, hD1⟩ hlt
      have hN : (prs xs).length = (pcs xs).length := by simp [prs]
      rw [hN] at hlt
      obtain ⟨gl, rfl, hg1, hg2, hgc⟩ := HLC.out (by omega)
      have hcn := hbn.cell
      have hfn := hbn.frozen
      have hcl : W.cell? ⟨w2.heap.size, 0, none⟩ = some (.slice (some ⟨gl, 0, none⟩) (pcs xs).length lc) := (hbw.cell (p := ⟨w2.heap.size, 0, none⟩) (by show w2.heap.size < _; omega)).trans bL0.cell
      have hck : W.cell? ⟨w3.heap.size, 0, none⟩ = some (.int .i64 (st % 50)) := (hbw.cell (p := ⟨w3.heap.size, 0, none⟩) (by show w3.heap.size < _; omega)).trans bK.cell
      obtain ⟨e, he⟩ : ∃ e, (pcs xs)[pre.length]? = some e := ⟨_, List.getElem?_eq_getElem hlt⟩
      have hplen := pcs_length xs
      have hc1 : W.cell? ⟨gl, pre.length * 4 + 1, none⟩ = some (.int .i64 (e.pos : Int)) := by
        rw [hbw.cell (p := ⟨gl, pre.length * 4 + 1, none⟩) (by show gl < _; omega), hB20.cell (p := ⟨gl, pre.length * 4 + 1, none⟩) (by show gl < _; omega)]
        exact hgc _ _ (by rw [encPcs_get he 1 (by omega)]; rfl)
      have hc0 : W.cell? ⟨gl, pre.length * 4, none⟩ = some (.int .i32 e.r) := by
        rw [hbw.cell (p := ⟨gl, pre.length * 4, none⟩) (by show gl < _; omega), hB20.cell (p := ⟨gl, pre.length * 4, none⟩) (by show gl < _; omega)]
        exact hgc _ _ (by have := encPcs_get he 0 (by omega); rw [Nat.add_zero] at this; rw [this]; rfl)
      have hcR : W.cell? ⟨w.heap.size, 0, none⟩ = some (.bool false) := (hbw.cell (p := ⟨w.heap.size, 0, none⟩) (by show w.heap.size < _; have := hB3.size; omega)).trans bR0.cell
      have hfR : W.frozen? ⟨w.heap.size, 0, none⟩ = false := (hbw.frozen (p := ⟨w.heap.size, 0, none⟩) (by show w.heap.size < _; have := hB3.size; omega)).trans bR0.frozen
      have hp := prs_get he
      have HP := Lib.hid hp
      have HE := Lib.hid he
      clear hp he hgc
      by_cases hx1 : x.1 = e.pos
      · have hb1 : ((x.1 : Int) != (e.pos : Int)) = false := by rw [hx1]; simp
        by_cases hx2 : x.2 = e.r
        · have hb2 : (x.2 != e.r) = false := by rw [hx2]; simp
          have HX1 := Lib.hid hx1
          have HX2 := Lib.hid hx2
          clear hx1 hx2
          gi_wp2
          exact ⟨(KeepsOthers.setCell _ _ _).from _, Keeps.setCell _ _ _ _ _ (.inr (by show w3.heap.size ≤ w3.heap.size + 1; omega)), by have := hbn.set (.int .i64 ((pre.length : Int) + 1)); simpa using this, hbw.setCell (p := ⟨w3.heap.size + 1, 0, none⟩) (Nat.le_refl _) _, (Below.heap_setCell _ _ _ _ (by show D ≠ w3.heap.size + 1; omega)).trans hD1⟩
        · have hb2 : (x.2 != e.r) = true := by simpa using hx2
          gi_wp2
          exact ⟨(KeepsOthers.setCell _ _ _).from _, ⟨rfl, fun hpf => hx2 (by rw [prefix_get hpf HP.out])⟩⟩
      · have hb1 : ((x.1 : Int) != (e.pos : Int)) = true := by simp; omega
        gi_wp2
        exact ⟨(KeepsOthers.setCell _ _ _).from _, ⟨rfl, fun hpf => hx1 (by rw [prefix_get hpf HP.out])⟩⟩
    case hI2 =>
      exact OwnFrom.and (Own.from (boxed_own (w3.heap.size + 1) 3 (fun pre : List (Nat × Int) => .int .i64 (pre.length : Int))) _) (OwnFrom.and (fun s A B row hs hg hr => hs.grown hg (by have := hs.size; omega) (fun k e => by have := (hr k e).1; omega))
        (fun s A B row hs hg hr => (hg.block D (by exact (Array.getElem?_eq_some_iff.1 hs).1) (fun e => by have := (hr D e.symm).1; omega)).trans hs))
    case hIx2 => exact fun c s A B row h hg hr => h
    case h02 => exact ⟨bN5, hb05, hD5⟩
    case stop2 =>
      rintro D2 c pre W hD2 hpre ⟨rfl, hno⟩ hK
      exact absurd hpre hno
    case done2 =>
      rintro D2 ys W hD2 rfl ⟨hbn, hbw, hD1⟩ hK
      have hN : (prs xs).length = (pcs xs).length := by simp [prs]
      rw [hN] at hbn
      have hplen := pcs_length xs
      have hcn := hbn.cell
      have hcl : W.cell? ⟨w2.heap.size, 0, none⟩ = some (.slice la (pcs xs).length lc) := (hbw.cell (p := ⟨w2.heap.size, 0, none⟩) (by show w2.heap.size < _; omega)).trans bL0.cell
      have hb2W : Below w2.heap.size w2 W := hB20.trans (hbw.mono (by omega))
      have hbWw : Below w.heap.size w W := hB2.trans (hb2W.mono hB2.size)
      have hkept := kept_yes w2.heap.size _ v xs W ((lent_all HW2.out).below hb2W (Nat.le_refl _)) ((hs.below hbWw (Nat.le_refl _)).mono hB2.size) hb hx
      have bRW := boxed_below bR0 hbw (by have := hB3.size; omega)
      have HD1 := Lib.hid hD1
      have HK := Lib.hid hK
      have HKE := Lib.hid hkept
      clear hN hbn hD1 hK hkept hbw
      gi_wp2_with (first
        | (refine ⟨trivial, ?_⟩; gi_at_call 16; refine (callsIn_wide.2 HKE.out).mono ?_; rintro e W6 ⟨rfl, hd6⟩)
        | (refine ⟨trivial, ?_⟩; gi_at_call 12; refine (callsIn_wide.2 (lives_yes _)).mono ?_; rintro e W7 ⟨rfl, hb7⟩; have hb7W := (hd6.below W6.heap.size).trans hb7; have bR7 := boxed_below (boxed_below bRW (hd6.below W.heap.size) bRW.lt) hb7 (by rw [hd6.size]; exact bRW.lt); have hc7 := bR7.cell; have hf7 := bR7.frozen))
      have hDs := (Array.getElem?_eq_some_iff.1 HD1.out).1
      have hD2s := (Array.getElem?_eq_some_iff.1 HK.out).1
      have hRl : w.heap.size < w3.heap.size := by have := bR3.lt; exact this
      have hD17 : (W7.setCell ⟨w.heap.size, 0, none⟩ (.bool true)).heap[D]? = some (.deferred (some [])) := (Below.heap_setCell _ _ _ _ (by show D ≠ w.heap.size; omega)).trans ((hb7W.block D (by rw [hd6.size]; exact hDs)).trans HD1.out)
      have hD27 : (W7.setCell ⟨w.heap.size, 0, none⟩ (.bool true)).heap[D2]? = some (.deferred (some [])) := (Below.heap_setCell _ _ _ _ (by show D2 ≠ w.heap.size; omega)).trans ((hb7W.block D2 (by rw [hd6.size]; exact hD2s)).trans HK.out)
      have hfin := hbWw.trans (hb7W.mono (by rw [hd6.size]; exact hbWw.size))
      exact leaves_mark2 hD27 hD17 (by omega) ⟨_, results_box_bool rfl Try.underlying4 rfl (boxed_putObj (boxed_putObj (bR7.set _) _ (by omega)) _ (by omega)), rfl,
        below_putObj (below_putObj (hfin.setCell (p := ⟨w.heap.size, 0, none⟩) (Nat.le_refl _) _) _ (by omega) (by have := hfin.size; simp; omega)) _ (by omega) (by have := hfin.size; simp; omega)⟩

end Go.Proofs.Ytpbmgcnalhaajaa.utfAll
