/- sieveref03.Read, Text, Clean; input.Clean; two lists of cells compared. -/
import Derived.Test.YtbdkiiaiadbmbaaInRead
import Derived.Test.YtbdkiiaiadbmbaaReads1
import Derived.Test.YtbdkiiaiadbmbaaStructEq
namespace Go.Proofs.Ytbdkiiaiadbmbaa
open Go.RowKit
set_option linter.unusedVariables false
set_option linter.unusedSimpArgs false

/-- where k pieces have been read -/
theorem pcs_step {xs : List Int} {k p : Nat} {c : Pc} (h : (pcs xs).drop k = pcsAt xs p) (hc : (pcs xs)[k]? = some c) :
    p < xs.length ∧ c.pos = p ∧ c.r = (rd (xs.drop p)).1 ∧ c.n = (rd (xs.drop p)).2.1 ∧ (pcs xs).drop (k + 1) = pcsAt xs (p + c.n) ∧ wdAt xs p = (c.r, c.n) :: wdAt xs (p + c.n) ∧ 1 ≤ c.n ∧ p + c.n ≤ xs.length := by
  have hlt := (List.getElem?_eq_some_iff.1 hc).1
  by_cases hp : p < xs.length
  · have h1 := pcsAt_cons xs p hp
    have h2 : (pcs xs).drop k = c :: (pcs xs).drop (k + 1) := by
      rw [List.drop_eq_getElem_cons hlt]
      congr 1
      exact (List.getElem?_eq_some_iff.1 hc).2
    rw [h1, h2] at h
    injection h with e1 e2
    obtain ⟨g1, g2⟩ := rd_at hp
    have e1' := e1
    subst e1'
    exact ⟨hp, rfl, rfl, rfl, e2, wdAt_cons xs p hp, g1, g2⟩
  · rw [pcsAt_end xs p (by omega)] at h
    have := congrArg List.length h
    simp at this; omega

theorem pcs_good {xs : List Int} (hb : Byt xs) {k : Nat} {e : Pc} (h : (pcs xs)[k]? = some e) : 0 ≤ e.r ∧ e.r ≤ 1114111 := by
  have h1 : e.r ∈ runesOf xs := List.mem_of_getElem? (i := k) (by simp [runesOf, h, pcRune])
  have := (goodB_iff _).1 (runes_good hb.byts e.r h1)
  exact ⟨this.1, this.2.1⟩
def RdInv (xs : List Int) (k p : Nat) (L : List Cl) (l c : Int) : Prop :=
  (pcs xs).drop k = pcsAt xs p ∧ readOf xs = L ++ cl (gr (wdAt xs p)) ⟨p, l, c⟩ ∧ L.length ≤ k ∧ k ≤ (pcs xs).length ∧ 1 ≤ l ∧ l ≤ p + 1 ∧ 1 ≤ c ∧ c ≤ p + 1 ∧ p ≤ xs.length
theorem rdinv_start (xs : List Int) : RdInv xs 0 0 [] 1 1 := ⟨rfl, rfl, Nat.le_refl _, Nat.zero_le _, by omega, by omega, by omega, by omega, Nat.zero_le _⟩
theorem rdinv_end {xs : List Int} {p : Nat} {L : List Cl} {l c : Int} (h : RdInv xs (pcs xs).length p L l c) : readOf xs = L := by
  obtain ⟨h1, h2, _⟩ := h
  rw [List.drop_length] at h1
  have : wdAt xs p = [] := by rw [wdAt, ← h1]; rfl
  rw [this] at h2
  simpa [gr, cl] using h2
/-- one piece alone -/
theorem rdinv_one {xs : List Int} {k p : Nat} {L : List Cl} {l c : Int} {e : Pc} (h : RdInv xs k p L l c) (he : (pcs xs)[k]? = some e) (hn : e.r ≠ 13 ∨ (pcs xs)[k + 1]? = none ∨ ∃ f, (pcs xs)[k + 1]? = some f ∧ f.r ≠ 10) :
    e.pos = p ∧ RdInv xs (k + 1) (p + e.n) (L ++ [⟨plainOf e.r, ⟨p, l, c⟩⟩]) (if plainOf e.r = 10 then l + 1 else l) (if plainOf e.r = 10 then 1 else c + 1) := by
  obtain ⟨h1, h2, h3, h4, h5, h6, h7, h8, h9⟩ := h
  obtain ⟨q1, q2, q3, q4, q5, q6, q7, q8⟩ := pcs_step h1 he
  have hlt := (List.getElem?_eq_some_iff.1 he).1
  refine ⟨q2, q5, ?_, by simp; omega, by omega, by split <;> omega, by split <;> omega, by split <;> omega, by split <;> omega, q8⟩
  have hg : gr (wdAt xs p) = (plainOf e.r, e.n) :: gr (wdAt xs (p + e.n)) := by
    rw [q6]
    rcases hn with hn | hn | ⟨f, hf, hn⟩
    · exact gr_not13 hn _ _
    · have : pcsAt xs (p + e.n) = [] := by rw [← q5]; exact List.drop_eq_nil_of_le (by simpa using hn)
      have h0 : wdAt xs (p + e.n) = [] := by rw [wdAt, this]; rfl
      rw [h0]; rfl
    · obtain ⟨_, _, _, _, _, r6, _, _⟩ := pcs_step q5 hf
      rw [r6]
      exact gr_else (by rintro ⟨_, h⟩; exact hn h) _ _ _
  rw [h2, hg]
  simp only [cl, mv]
  split <;> simp
/-- CR LF -/
theorem rdinv_two {xs : List Int} {k p : Nat} {L : List Cl} {l c : Int} {e f : Pc} (h : RdInv xs k p L l c) (he : (pcs xs)[k]? = some e) (hf : (pcs xs)[k + 1]? = some f) (he13 : e.r = 13) (hf10 : f.r = 10) :
    e.pos = p ∧ RdInv xs (k + 2) (p + e.n + f.n) (L ++ [⟨10, ⟨p, l, c⟩⟩]) (l + 1) 1 := by
  obtain ⟨h1, h2, h3, h4, h5, h6, h7, h8, h9⟩ := h
  obtain ⟨q1, q2, q3, q4, q5, q6, q7, q8⟩ := pcs_step h1 he
  obtain ⟨r1, r2, r3, r4, r5, r6, r7, r8⟩ := pcs_step q5 hf
  have hlt := (List.getElem?_eq_some_iff.1 hf).1
  refine ⟨q2, r5, ?_, by simp; omega, by omega, by omega, by omega, by omega, by omega, r8⟩
  rw [h2, q6, r6, he13, hf10, gr_crlf]
  simp only [cl, mv]
  rw [show ((p : Int) + ((e.n + f.n : Nat) : Int)) = ((p + e.n + f.n : Nat) : Int) from by omega]
  simp

set_option maxHeartbeats 4000000 in
theorem refread_any (B : Nat) (v : Value) (xs : List Int) (w : World) (hs : SlI .u8 B w v xs) (hB : B ≤ w.heap.size) (hb : Byt xs) (hx : xs.length ≤ 1099511627776) :
    Calls Try.prog 14 #[v] w fun e w' => ∃ u, e = .returned u ∧ w'.ownsRow w.heap.size 36 4 u (readOf xs).length (encKs (readOf xs)) ∧ Below w.heap.size w w' := by
  obtain ⟨i0, hi, hz0, hz1, hz2⟩ := info_parts Try.infoCell
  have hplen := pcs_length xs
  go_enter Try.func14, Try.ntmps14
  go_wp2_with fail
  refine (pieces_any _ _ xs _ hs hB hb hx).mono ?_
  rintro e w2 ⟨lv, rfl, hown2, hb2⟩
  obtain ⟨la, lc, rfl, hlc, hln, hlcell⟩ := owns_shape hown2
  have HLC := Lib.hid hlcell
  clear hlcell hln hown2
  go_wp2
  go_loopw [3, 4, 5, 7] (fun u ln cn i wr => ∃ (k p : Nat) (L : List Cl) (l c : Int), ln = .int .i64 l ∧ cn = .int .i64 c ∧ i = .int .i64 k ∧ RdInv xs k p L l c ∧ wr.ownsRow w2.heap.size 36 4 u L.length (encKs L) ∧ Below w2.heap.size w2 wr) (fun _ _ _ i _ => (pcs xs).length - (intOf i).toNat)
  case atStart => exact ⟨0, 0, [], 1, 1, rfl, rfl, rfl, rdinv_start xs, World.ownsRow_nil _ _ _ _, Below.refl _ _⟩
  case round =>
    obtain ⟨k, p, L, l, c, rfl, rfl, rfl, hI, hown, hBw⟩ := hrel
    have hkl := hI.2.2.2.1
    by_cases hkn : k < (pcs xs).length
    · obtain ⟨g, rfl, hg1, hg2, hgc⟩ := HLC.out (by omega)
      obtain ⟨e, hek⟩ : ∃ e, (pcs xs)[k]? = some e := ⟨_, List.getElem?_eq_getElem hkn⟩
      obtain ⟨q0, q1, q2, q3⟩ := piece_cells hgc hek
      rw [← hBw.cell (p := ⟨g, k * 4, none⟩) hg2] at q0
      rw [← hBw.cell (p := ⟨g, k * 4 + 1, none⟩) hg2] at q1
      have hLk : L.length ≤ k := hI.2.2.1
      have hl1 : 1 ≤ l ∧ l ≤ 1099511627778 := by obtain ⟨_, _, _, _, a5, a6, _, _, a9⟩ := hI; omega
      have hc1 : 1 ≤ c ∧ c ≤ 1099511627778 := by obtain ⟨_, _, _, _, _, _, a5, a6, a9⟩ := hI; omega
      have hgood := pcs_good hb hek
      have hpR := fun w0 => plainR_any e.r w0 (by omega) (by omega)
      have hcases : (e.r ≠ 13 ∨ (pcs xs)[k + 1]? = none ∨ ∃ f, (pcs xs)[k + 1]? = some f ∧ f.r ≠ 10) ∨ (e.r = 13 ∧ ∃ f, (pcs xs)[k + 1]? = some f ∧ f.r = 10) := by
        by_cases z : e.r = 13
        · cases hq : (pcs xs)[k + 1]? with
          | none => exact .inl (.inr (.inl rfl))
          | some f =>
            by_cases y : f.r = 10
            · exact .inr ⟨z, f, rfl, y⟩
            · exact .inl (.inr (.inr ⟨f, rfl, y⟩))
        · exact .inl (.inl z)
      rcases hcases with hcs | ⟨z, f, hfk, y⟩
      · obtain ⟨hpos, hI2⟩ := rdinv_one hI hek hcs
        have hguard : (e.r == 13) = false ∨ ((e.r == 13) = true ∧ ¬ (k + 1 < (pcs xs).length)) ∨ ((e.r == 13) = true ∧ k + 1 < (pcs xs).length ∧ ∃ f : Int, wr.cell? ⟨g, (k + 1) * 4, none⟩ = some (.int .i32 f) ∧ (f == 10) = false) := by
          by_cases z : e.r = 13
          · rcases hcs with h | h | ⟨f, hf, y⟩
            · exact absurd z h
            · exact .inr (.inl ⟨by simp [z], by simpa using h⟩)
            · have := (piece_cells hgc hf).1
              rw [← hBw.cell (p := ⟨g, (k + 1) * 4, none⟩) hg2] at this
              exact .inr (.inr ⟨by simp [z], (List.getElem?_eq_some_iff.1 hf).1, f.r, this, by simp [y]⟩)
          · exact .inl (by simp [z])
        rw [hpos] at q1
        have HPR := Lib.hid hpR
        have HI2 := Lib.hid hI2
        have HO := Lib.hid hown
        clear hpR hI2 hown hI hgc hek hcs q2 q3 hpos
        generalize plainOf e.r = P at *
        generalize e.r = er at *
        generalize e.n = en at *
        by_cases hP : P = 10
        · subst hP
          have hI3 : RdInv xs (k + 1) (p + en) (L ++ [⟨10, ⟨p, l, c⟩⟩]) (l + 1) 1 := by have := HI2.out; simpa using this
          have HI3 := Lib.hid hI3
          clear hI3
          rcases hguard with g1 | ⟨g1, g2⟩ | ⟨g1, g2, f, g3, g4⟩
          all_goals
            go_wp2_with (first
              | (go_at_call 10; refine (HPR.out _).mono ?_; rintro e w' ⟨rfl, rfl⟩)
              | (at_builtin; refine wpList_append_own _ rfl _ _ 28 rfl w2.heap.size 36 i0 (.agg #[.int .i32 0, .int .i64 0, .int .i64 0, .int .i64 0]) 4 32 Try.underlying28 hi hz0 hz1 hz2 rfl (by decide) _ L.length (encKs L) rfl (HO.out.alloc _) ⟨wr.heap.size, 0, none⟩ 1 1 (encK ⟨10, ⟨p, l, c⟩⟩) rfl rfl (cells_news _ _ _) (by intro u hu; simp [encK] at hu; rcases hu with rfl | rfl | rfl | rfl <;> rfl) (by unfold maxLen; omega) (by omega) (by have := hBw.size; simp; omega) ?_; intro v' w3 hown3 hgrow3 _; have hB3 : Below w2.heap.size w2 w3 := (hBw.alloc hBw.size _).grown hgrow3 (by have := hBw.size; simp; omega) (ownBlock_lt HO.out); have HO3 := Lib.hid hown3; clear hown3 hgrow3))
            go_roundw
            case rel => exact ⟨k + 1, p + en, _, l + 1, 1, by first | rfl | go_num, by first | rfl | go_num, by go_num, HI3.out, by rw [encKs_snoc]; simpa using HO3.out, hB3⟩
            case measure => simp [intOf]; omega
        · have hb10 : (P == 10) = false := by simp [hP]
          have hI3 : RdInv xs (k + 1) (p + en) (L ++ [⟨P, ⟨p, l, c⟩⟩]) l (c + 1) := by have := HI2.out; simpa [hP] using this
          have HI3 := Lib.hid hI3
          clear hI3 hP
          rcases hguard with g1 | ⟨g1, g2⟩ | ⟨g1, g2, f, g3, g4⟩
          all_goals
            go_wp2_with (first
              | (go_at_call 10; refine (HPR.out _).mono ?_; rintro e w' ⟨rfl, rfl⟩)
              | (at_builtin; refine wpList_append_own _ rfl _ _ 28 rfl w2.heap.size 36 i0 (.agg #[.int .i32 0, .int .i64 0, .int .i64 0, .int .i64 0]) 4 32 Try.underlying28 hi hz0 hz1 hz2 rfl (by decide) _ L.length (encKs L) rfl (HO.out.alloc _) ⟨wr.heap.size, 0, none⟩ 1 1 (encK ⟨P, ⟨p, l, c⟩⟩) rfl rfl (cells_news _ _ _) (by intro u hu; simp [encK] at hu; rcases hu with rfl | rfl | rfl | rfl <;> rfl) (by unfold maxLen; omega) (by omega) (by have := hBw.size; simp; omega) ?_; intro v' w3 hown3 hgrow3 _; have hB3 : Below w2.heap.size w2 w3 := (hBw.alloc hBw.size _).grown hgrow3 (by have := hBw.size; simp; omega) (ownBlock_lt HO.out); have HO3 := Lib.hid hown3; clear hown3 hgrow3))
            go_roundw
            case rel => exact ⟨k + 1, p + en, _, l, c + 1, by first | rfl | go_num, by first | rfl | go_num, by go_num, HI3.out, by rw [encKs_snoc]; simpa using HO3.out, hB3⟩
            case measure => simp [intOf]; omega
      · obtain ⟨hpos, hI2⟩ := rdinv_two hI hek hfk z y
        have q4 := (piece_cells hgc hfk).1
        rw [← hBw.cell (p := ⟨g, (k + 1) * 4, none⟩) hg2] at q4
        have hk2 := (List.getElem?_eq_some_iff.1 hfk).1
        rw [hpos] at q1
        rw [y] at q4
        rw [z] at q0
        have hP10 := fun w0 => plainR_any 10 w0 (by omega) (by omega)
        rw [show plainOf 10 = 10 from by decide] at hP10
        have HPR := Lib.hid hP10
        have HI3 := Lib.hid hI2
        have HO := Lib.hid hown
        clear hpR hI2 hown hI hgc hek hfk q2 q3 hpos hP10 y z hgood
        generalize p + e.n + f.n = p2 at *
        go_wp2_with (first
          | (go_at_call 10; refine (HPR.out _).mono ?_; rintro e w' ⟨rfl, rfl⟩)
          | (at_builtin; refine wpList_append_own _ rfl _ _ 28 rfl w2.heap.size 36 i0 (.agg #[.int .i32 0, .int .i64 0, .int .i64 0, .int .i64 0]) 4 32 Try.underlying28 hi hz0 hz1 hz2 rfl (by decide) _ L.length (encKs L) rfl (HO.out.alloc _) ⟨wr.heap.size, 0, none⟩ 1 1 (encK ⟨10, ⟨p, l, c⟩⟩) rfl rfl (cells_news _ _ _) (by intro u hu; simp [encK] at hu; rcases hu with rfl | rfl | rfl | rfl <;> rfl) (by unfold maxLen; omega) (by omega) (by have := hBw.size; simp; omega) ?_; intro v' w3 hown3 hgrow3 _; have hB3 : Below w2.heap.size w2 w3 := (hBw.alloc hBw.size _).grown hgrow3 (by have := hBw.size; simp; omega) (ownBlock_lt HO.out); have HO3 := Lib.hid hown3; clear hown3 hgrow3))
        go_roundw
        case rel => exact ⟨k + 2, p2, _, l + 1, 1, by first | rfl | go_num, by first | rfl | go_num, by go_num, HI3.out, by rw [encKs_snoc]; simpa using HO3.out, hB3⟩
        case measure => simp [intOf]; omega
    · obtain rfl : k = (pcs xs).length := by omega
      have he := rdinv_end hI
      have HE := Lib.hid he
      clear he hI
      go_wp2
      go_ret
      exact ⟨_, rfl, by rw [HE.out]; exact ownsRow_base hown hb2.size, hb2.trans (hBw.mono hb2.size)⟩

end Go.Proofs.Ytbdkiiaiadbmbaa
