/- input.Lines. -/
import Derived.Test.YtbdkiiaiadbmbaaInRefB
namespace Go.Proofs.Ytbdkiiaiadbmbaa
open Go.RowKit
set_option linter.unusedVariables false
set_option linter.unusedSimpArgs false

theorem Try.infoStr : (Try.prog.info? 9).map (fun i => (i.zero, i.size, i.bytes)) = some (some (.string ByteArray.empty), 1, 16) := by kernel_rfl
def splitL : List Int → List Int → List (List Int)
  | [], cur => if cur = [] then [] else [cur]
  | r :: t, cur => if r = 10 then cur :: splitL t [] else splitL t (cur ++ [r])
theorem split_no10 : ∀ (a b c : List Int), (∀ x ∈ a, x ≠ 10) → splitL (a ++ b) c = splitL b (c ++ a)
  | [], b, c, _ => by simp
  | x :: a, b, c, h => by
    simp only [List.cons_append, splitL]
    rw [if_neg (h x (by simp)), split_no10 a b _ (fun y hy => h y (by simp [hy]))]
    simp
theorem encs_nil_iff (l : List Int) : encs l = [] ↔ l = [] := by
  cases l with
  | nil => simp [encs]
  | cons r t =>
    have := (encC_length (fixR r)).1
    constructor
    · intro h
      rw [encs_cons] at h
      have h2 : (encC (fixR r)).length = 0 := by
        show (encR r).length = 0
        rw [(List.append_eq_nil_iff.1 h).1]; rfl
      omega
    · intro h; cases h
theorem encR_ten (r : Int) (h0 : r ≠ 10) : ∀ x ∈ encR r, x ≠ 10 := by
  have hg := (goodB_iff _).1 (fixR_good r)
  have hne : fixR r ≠ 10 := by unfold fixR; split <;> omega
  intro x hx
  unfold encR encC at hx
  generalize fixR r = c at *
  split at hx
  · simp at hx; omega
  · split at hx
    · simp at hx; omega
    · split at hx
      · simp at hx; omega
      · simp at hx; omega
theorem split_encs : ∀ (T cur : List Int), splitL (encs T) (encs cur) = (splitL T cur).map encs
  | [], cur => by
    simp only [splitL]
    by_cases h : cur = []
    · subst h; simp [splitL, encs]
    · rw [if_neg h]
      have h2 : encs cur ≠ [] := fun e => h ((encs_nil_iff cur).1 e)
      show splitL [] (encs cur) = _
      simp [splitL, h2]
  | r :: t, cur => by
    rw [encs_cons]
    by_cases h : r = 10
    · subst h
      have : encR 10 = [10] := by decide
      rw [this]
      simp only [List.cons_append, List.nil_append, splitL, if_true, List.map_cons]
      have := split_encs t []
      rw [show encs [] = [] from rfl] at this
      rw [this]
    · rw [split_no10 _ _ _ (encR_ten r h)]
      simp only [splitL, if_neg h]
      rw [← split_encs t (cur ++ [r]), encs_snoc]
theorem split_length : ∀ (T cur : List Int), (splitL T cur).length ≤ T.length + 1
  | [], cur => by simp only [splitL]; split <;> simp
  | r :: t, cur => by
    simp only [splitL]
    split
    · have := split_length t []; simp; omega
    · have := split_length t (cur ++ [r]); simp; omega
abbrev lnV (l : List Int) : Value := .string (strOfNums (encs l))

set_option maxRecDepth 100000 in
set_option maxHeartbeats 2000000 in
theorem lines_any (B : Nat) (v : Value) (xs : List Int) (w : World) (hs : SlI .u8 B w v xs) (hB : B ≤ w.heap.size) (hb : Byt xs) (hx : xs.length ≤ 274877906944) :
    Calls Try.prog 29 #[v] w fun e w' => ∃ u, e = .returned u ∧ w'.ownsRow w.heap.size 9 1 u (splitL (textOf xs) []).length ((splitL (textOf xs) []).map lnV) ∧ Below w.heap.size w w' := by
  obtain ⟨i0, hi, hz0, hz1, hz2⟩ := info_parts Try.infoI32
  obtain ⟨i1, hi1, hy0, hy1, hy2⟩ := info_parts Try.infoStr
  have hplen := readOf_length xs
  go_enter Try.func29, Try.ntmps29
  go_wp2_with fail
  refine (read_cells _ _ xs _ hs hB hb (by omega)).mono ?_
  rintro e w2 ⟨lv, rfl, hown2, hb2⟩
  obtain ⟨la, lc, rfl, hlc, hln, hlcell⟩ := owns_shape hown2
  have HLC := Lib.hid hlcell
  clear hlcell hln hown2
  go_wp2
  go_loopw [3, 4, 10] (fun o u i wr => ∃ (k : Nat) (O : List (List Int)) (cur : List Int), i = .int .i64 k ∧ k ≤ (readOf xs).length ∧ Hid (splitL (textOf xs) [] = O ++ splitL ((textOf xs).drop k) cur) ∧ O.length ≤ k ∧ cur.length ≤ k ∧
    wr.ownsRow w2.heap.size 9 1 o O.length (O.map lnV) ∧ wr.ownsRow w2.heap.size 21 1 u cur.length (cur.map (Value.int .i32)) ∧ Below w2.heap.size w2 wr) (fun _ _ i _ => (readOf xs).length - (intOf i).toNat)
  case atStart => exact ⟨0, [], [], rfl, Nat.zero_le _, Lib.hid rfl, Nat.zero_le _, Nat.zero_le _, World.ownsRow_nil _ _ _ _, World.ownsRow_nil _ _ _ _, Below.refl _ _⟩
  case round =>
    obtain ⟨k, O, cur, rfl, hk, hsp, hO, hcu, hout, hline, hBw⟩ := hrel
    by_cases hkn : k < (readOf xs).length
    · obtain ⟨g, rfl, hg1, hg2, hgc⟩ := HLC.out (by omega)
      obtain ⟨c, hck⟩ : ∃ c, (readOf xs)[k]? = some c := ⟨_, List.getElem?_eq_getElem hkn⟩
      obtain ⟨q0, q1, q2, q3⟩ := cell_cells hgc hck
      rw [← hBw.cell (p := ⟨g, k * 4, none⟩) hg2] at q0
      rw [← hBw.cell (p := ⟨g, k * 4 + 1, none⟩) hg2] at q1
      rw [← hBw.cell (p := ⟨g, k * 4 + 2, none⟩) hg2] at q2
      rw [← hBw.cell (p := ⟨g, k * 4 + 3, none⟩) hg2] at q3
      have htd : (textOf xs).drop k = c.r :: (textOf xs).drop (k + 1) := by
        have hlt : k < (textOf xs).length := by rw [textOf_length]; exact hkn
        rw [List.drop_eq_getElem_cons hlt]
        congr 1
        have : (textOf xs)[k]? = some c.r := by rw [textOf_read]; simp [hck]
        exact (List.getElem?_eq_some_iff.1 this).2
      have HO := Lib.hid hout
      have HLI := Lib.hid hline
      have hsp2 := hsp.out
      rw [htd] at hsp2
      simp only [splitL] at hsp2
      have hapart := owns_apart hout hline (by decide)
      have hapart2 := owns_apart hline hout (by decide)
      clear hgc hck htd hsp
      obtain ⟨cr, ⟨cb, cl, cc⟩⟩ := c
      simp only at *
      by_cases h10 : cr = 10
      · rw [if_pos h10] at hsp2
        subst h10
        have HSP := Lib.hid (show splitL (textOf xs) [] = (O ++ [cur]) ++ splitL ((textOf xs).drop (k + 1)) [] by rw [hsp2]; simp)
        have hsl : SlI .i32 (wr.heap.size + 1) (wr.alloc (.cells #[.int .i32 10, .int .i64 cb, .int .i64 cl, .int .i64 cc] 36)) u4 cur := by
          have := slI_of_owns (hline.alloc (.cells #[.int .i32 10, .int .i64 cb, .int .i64 cl, .int .i64 cc] 36)) (Nat.le_refl _)
          rw [World.size_alloc] at this
          exact this
        have hcv := run_conv_runes (P := Try.prog) hsl 69 9 21 Try.underlying69 Try.underlying21 Try.underlying9
        clear hsp2 hsl hout hline hapart hapart2
        go_wp2_with (at_builtin; refine wpList_append_own _ rfl _ _ 58 rfl w2.heap.size 9 i1 (.string ByteArray.empty) 1 16 Try.underlying58 hi1 hy0 hy1 hy2 rfl (by decide) _ O.length (O.map lnV) rfl ((HO.out.alloc _).alloc _) ⟨wr.heap.size + 1, 0, none⟩ 1 1 [lnV cur] rfl rfl ?c1 ?c2 ?c3 ?c4 ?c5 ?_)
        try (case c1 => intro j u hj; simpa using cells_news (wr.alloc _) _ _ j u hj)
        case c2 => first | rfl | (intro u hu; simp at hu; subst hu; rfl)
        case c3 => unfold maxLen; omega
        case c4 => omega
        case c5 => have := hBw.size; simp; omega
        intro v' w3 hown3 hgrow3 _
        have hB3 : Below w2.heap.size w2 w3 := ((hBw.alloc hBw.size _).alloc (by have := hBw.size; simp; omega) _).grown hgrow3 (by have := hBw.size; simp; omega) (ownBlock_lt HO.out)
        have hown3' : w3.ownsRow w2.heap.size 9 1 v' (O ++ [cur]).length ((O ++ [cur]).map lnV) := by simpa using hown3
        have HO3 := Lib.hid hown3'
        clear hown3 hown3' hgrow3 hcv
        go_wp2
        go_roundw
        case rel => exact ⟨k + 1, O ++ [cur], [], by go_num, by omega, HSP, by simp; omega, Nat.zero_le _, HO3.out, World.ownsRow_nil _ _ _ _, hB3⟩
        case measure => simp [intOf]; omega
      · rw [if_neg h10] at hsp2
        have hb10 : (cr == 10) = false := by simp [h10]
        have HSP := Lib.hid hsp2
        clear hsp2 hout hline h10
        go_wp2_with (at_builtin; refine wpList_append_own _ rfl _ _ 69 rfl w2.heap.size 21 i0 (.int .i32 0) 1 4 Try.underlying69 hi hz0 hz1 hz2 rfl (by decide) _ cur.length (cur.map (Value.int .i32)) rfl ((HLI.out.alloc _).alloc _) ⟨wr.heap.size + 1, 0, none⟩ 1 1 [.int .i32 cr] rfl rfl ?d1 ?d2 ?d3 ?d4 ?d5 ?_)
        try (case d1 => intro j u hj; simpa using cells_news (wr.alloc _) _ _ j u hj)
        case d2 => first | rfl | (intro u hu; simp at hu; subst hu; rfl)
        case d3 => unfold maxLen; omega
        case d4 => omega
        case d5 => have := hBw.size; simp; omega
        intro v' w3 hown3 hgrow3 _
        have hB3 : Below w2.heap.size w2 w3 := ((hBw.alloc hBw.size _).alloc (by have := hBw.size; simp; omega) _).grown hgrow3 (by have := hBw.size; simp; omega) (ownBlock_lt HLI.out)
        have hO3 := ((HO.out.alloc (.cells #[.int .i32 cr, .int .i64 cb, .int .i64 cl, .int .i64 cc] 36)).alloc (.cells #[.int .i32 cr] 21)).kept hgrow3 (by
          cases hq : u3.ownBlock with
          | none => exact .inl rfl
          | some q => exact .inr (fun e => hapart q hq e.symm))
        have hown3' : w3.ownsRow w2.heap.size 21 1 v' (cur ++ [cr]).length ((cur ++ [cr]).map (Value.int .i32)) := by simpa using hown3
        have HO3 := Lib.hid hO3
        have HL3 := Lib.hid hown3'
        clear hown3 hown3' hgrow3 hO3 hapart hapart2
        go_wp2
        go_roundw
        case rel => exact ⟨k + 1, O, cur ++ [cr], by go_num, by omega, HSP, by omega, by simp; omega, HO3.out, HL3.out, hB3⟩
        case measure => simp [intOf]; omega
    · obtain rfl : k = (readOf xs).length := by omega
      have hsp2 := hsp.out
      rw [← textOf_length, List.drop_length] at hsp2
      simp only [splitL] at hsp2
      obtain ⟨ca, cc, rfl, _, _, _⟩ := owns_shape hline
      have hsl := slI_of_owns hline (Nat.le_refl _)
      have hcv := run_conv_runes (P := Try.prog) hsl 69 9 21 Try.underlying69 Try.underlying21 Try.underlying9
      have hBz := hB
      by_cases hc0 : cur = []
      · rw [if_pos hc0, List.append_nil] at hsp2
        subst hc0
        have HSP := Lib.hid hsp2
        have HO := Lib.hid hout
        clear hsp2 hsp hout hline hsl hcv
        go_wp2
        go_ret
        exact ⟨_, rfl, by rw [HSP.out]; exact ownsRow_base HO.out hb2.size, hb2.trans (hBw.mono hb2.size)⟩
      · rw [if_neg hc0] at hsp2
        have hcl : 0 < cur.length := List.length_pos_iff.2 hc0
        have HSP := Lib.hid hsp2
        have HO := Lib.hid hout
        clear hsp2 hsp hout hline hsl hc0
        go_wp2_with (at_builtin; refine wpList_append_own _ rfl _ _ 58 rfl w2.heap.size 9 i1 (.string ByteArray.empty) 1 16 Try.underlying58 hi1 hy0 hy1 hy2 rfl (by decide) _ O.length (O.map lnV) rfl (HO.out.alloc _) ⟨wr.heap.size, 0, none⟩ 1 1 [lnV cur] rfl rfl ?e1 ?e2 ?e3 ?e4 ?e5 ?_)
        try (case e1 => exact cells_news _ _ _)
        case e2 => first | rfl | (intro u hu; simp at hu; subst hu; rfl)
        case e3 => unfold maxLen; omega
        case e4 => omega
        case e5 => have := hBw.size; simp; omega
        intro v' w3 hown3 hgrow3 _
        have hB3 : Below w2.heap.size w2 w3 := (hBw.alloc hBw.size _).grown hgrow3 (by have := hBw.size; simp; omega) (ownBlock_lt HO.out)
        have hown3' : w3.ownsRow w2.heap.size 9 1 v' (O ++ [cur]).length ((O ++ [cur]).map lnV) := by simpa using hown3
        have HO3 := Lib.hid hown3'
        clear hown3 hown3' hgrow3 hcv
        go_wp2
        go_ret
        exact ⟨_, rfl, by rw [HSP.out]; exact ownsRow_base HO3.out hb2.size, hb2.trans (hB3.mono hb2.size)⟩

end Go.Proofs.Ytbdkiiaiadbmbaa
