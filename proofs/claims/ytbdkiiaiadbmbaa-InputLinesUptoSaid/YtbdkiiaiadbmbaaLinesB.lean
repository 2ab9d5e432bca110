/- sieveref03.Lines. -/
import Derived.Test.YtbdkiiaiadbmbaaLines
namespace Go.Proofs.Ytbdkiiaiadbmbaa
open Go.RowKit
set_option linter.unusedVariables false
set_option linter.unusedSimpArgs false

abbrev byV (l : List Int) : Value := .string (strOfNums l)
theorem byV_ext (s : ByteArray) (f i : Nat) : Value.string (s.extract f i) = byV (((ns s).take i).drop f) := by
  unfold byV
  rw [← ns_extract, str_ns]

set_option maxRecDepth 100000 in
set_option maxHeartbeats 2000000 in
theorem reflines_any (B : Nat) (v : Value) (xs : List Int) (w : World) (hs : SlI .u8 B w v xs) (hB : B ≤ w.heap.size) (hb : Byt xs) (hx : xs.length ≤ 274877906944) :
    Calls Try.prog 30 #[v] w fun e w' => ∃ u, e = .returned u ∧ w'.ownsRow w.heap.size 9 1 u (splitL (encs (textOf xs)) []).length ((splitL (encs (textOf xs)) []).map byV) ∧ Below w.heap.size w w' := by
  obtain ⟨i1, hi1, hy0, hy1, hy2⟩ := info_parts Try.infoStr
  have hplen := readOf_length xs
  have hel : (encs (textOf xs)).length ≤ 1099511627776 := by
    have h1 := encs_length (textOf xs)
    have h2 := textOf_length xs
    omega
  have hnS : ns (strOfNums (encs (textOf xs))) = encs (textOf xs) := ns_str (encs_byts _)
  have hrt := reftext3_any B v xs w hs hB hb hx
  obtain ⟨S, hS⟩ : ∃ S, encs (textOf xs) = S := ⟨_, rfl⟩
  rw [hS] at hnS hrt hel ⊢
  generalize strOfNums S = s at *
  have hss : s.size = S.length := by rw [← hnS, ns_length]
  have HRT := Lib.hid hrt
  clear hrt hS
  go_enter Try.func30, Try.ntmps30
  go_wp2_with fail
  refine HRT.out.mono ?_
  rintro e w2 ⟨rfl, hb2⟩
  have HNS := Lib.hid hnS
  have HSS := Lib.hid hss
  have hsz : s.size ≤ 1099511627776 := by omega
  clear hnS hss HRT
  go_wp2
  go_loopw [3, 5, 6] (fun o u i wr => ∃ (k f : Nat) (O : List (List Int)), i = .int .i64 k ∧ u = .int .i64 f ∧ k ≤ s.size ∧ f ≤ k ∧ Hid (splitL S [] = O ++ splitL (S.drop k) ((S.take k).drop f)) ∧ O.length ≤ k ∧
    wr.ownsRow w2.heap.size 9 1 o O.length (O.map byV) ∧ Below w2.heap.size w2 wr) (fun _ _ i _ => s.size - (intOf i).toNat)
  case atStart => exact ⟨0, 0, [], rfl, rfl, Nat.zero_le _, Nat.le_refl _, Lib.hid rfl, Nat.zero_le _, World.ownsRow_nil _ _ _ _, Below.refl _ _⟩
  case round =>
    obtain ⟨k, f, O, rfl, rfl, hk, hf, hsp, hO, hout, hBw⟩ := hrel
    by_cases hkn : k < s.size
    · have hget := ns_get hkn
      rw [HNS.out] at hget
      have hkS : k < S.length := by rw [← HSS.out]; exact hkn
      have htd : S.drop k = ((s[k]'hkn).toNat : Int) :: S.drop (k + 1) := by
        rw [List.drop_eq_getElem_cons hkS]
        congr 1
        exact (List.getElem?_eq_some_iff.1 hget).2
      have htk : (S.take (k + 1)).drop f = (S.take k).drop f ++ [((s[k]'hkn).toNat : Int)] := by
        rw [List.take_add_one, hget, List.drop_append_of_le_length (by rw [List.length_take]; omega)]; rfl
      have hsp2 := hsp.out
      rw [htd] at hsp2
      simp only [splitL] at hsp2
      have hge : s.get! k = s[k]'hkn := get!_eq hkn
      have hsl := fun w0 => run_slice_string (P := Try.prog) w0 9 s .i64 .i64 (f : Int) (k : Int) Try.underlying9 (by omega) (by omega) (by omega)
      simp only [Int.toNat_natCast, byV_ext, HNS.out] at hsl
      have HO := Lib.hid hout
      clear hget htd hsp
      by_cases h10 : ((s[k]'hkn).toNat : Int) = 10
      · rw [if_pos h10] at hsp2
        have hz : (S.take (k + 1)).drop (k + 1) = [] := List.drop_eq_nil_of_le (by rw [List.length_take]; omega)
        have HSP := Lib.hid (show splitL S [] = (O ++ [(S.take k).drop f]) ++ splitL (S.drop (k + 1)) ((S.take (k + 1)).drop (k + 1)) by rw [hsp2, hz]; simp)
        clear hsp2 htk hz
        go_wp2_with (at_builtin; refine wpList_append_own _ rfl _ _ 58 rfl w2.heap.size 9 i1 (.string ByteArray.empty) 1 16 Try.underlying58 hi1 hy0 hy1 hy2 rfl (by decide) _ O.length (O.map byV) rfl (HO.out.alloc _) ⟨wr.heap.size, 0, none⟩ 1 1 [byV ((S.take k).drop f)] rfl rfl ?e1 ?e2 ?e3 ?e4 ?e5 ?_)
        try (case e1 => exact cells_news _ _ _)
        case e2 => first | rfl | (intro u hu; simp at hu; subst hu; rfl)
        case e3 => unfold maxLen; omega
        case e4 => omega
        case e5 => have := hBw.size; simp; omega
        intro v' w3 hown3 hgrow3 _
        have hB3 : Below w2.heap.size w2 w3 := (hBw.alloc hBw.size _).grown hgrow3 (by have := hBw.size; simp; omega) (ownBlock_lt HO.out)
        have hown3' : w3.ownsRow w2.heap.size 9 1 v' (O ++ [(S.take k).drop f]).length ((O ++ [(S.take k).drop f]).map byV) := by simpa using hown3
        have HO3 := Lib.hid hown3'
        clear hown3 hown3' hgrow3 hsl
        go_wp2
        go_roundw
        case rel => exact ⟨k + 1, k + 1, _, by go_num, by go_num, by omega, Nat.le_refl _, HSP, by simp; omega, HO3.out, hB3⟩
        case measure => simp [intOf]; omega
      · rw [if_neg h10] at hsp2
        have HSP := Lib.hid (show splitL S [] = O ++ splitL (S.drop (k + 1)) ((S.take (k + 1)).drop f) by rw [htk]; exact hsp2)
        have hb10 : (((s[k]'hkn).toNat : Int) == 10) = false := by simpa using h10
        clear hsp2 htk hsl h10
        go_wp2
        go_roundw
        case rel => exact ⟨k + 1, f, O, by go_num, rfl, by omega, by omega, HSP, by omega, HO.out, hBw⟩
        case measure => simp [intOf]; omega
    · obtain rfl : k = s.size := by omega
      have hsp2 := hsp.out
      rw [HSS.out, List.drop_length, List.take_length] at hsp2
      simp only [splitL] at hsp2
      have HO := Lib.hid hout
      by_cases hf0 : f < s.size
      · rw [if_neg (by intro h; have := congrArg List.length h; simp at this; have := HSS.out; omega)] at hsp2
        have hsl := fun w0 => run_slice_string_from (P := Try.prog) w0 9 s f (by omega) Try.underlying9
        have hex : s.extract f s.size = strOfNums (S.drop f) := by
          rw [← str_ns (s.extract f s.size), ns_extract, HNS.out, HSS.out, List.take_length]
        have HSP := Lib.hid hsp2
        have HEX := Lib.hid hex
        simp only [hex] at hsl
        clear hsp2 hsp hout hex
        go_wp2_with (at_builtin; refine wpList_append_own _ rfl _ _ 58 rfl w2.heap.size 9 i1 (.string ByteArray.empty) 1 16 Try.underlying58 hi1 hy0 hy1 hy2 rfl (by decide) _ O.length (O.map byV) rfl (HO.out.alloc _) ⟨wr.heap.size, 0, none⟩ 1 1 [byV (S.drop f)] rfl rfl ?k1 ?k2 ?k3 ?k4 ?k5 ?_)
        try (case k1 => exact cells_news _ _ _)
        case k2 => first | rfl | (intro u hu; simp at hu; subst hu; rfl)
        case k3 => unfold maxLen; omega
        case k4 => omega
        case k5 => have := hBw.size; simp; omega
        intro v' w3 hown3 hgrow3 _
        have hB3 : Below w2.heap.size w2 w3 := (hBw.alloc hBw.size _).grown hgrow3 (by have := hBw.size; simp; omega) (ownBlock_lt HO.out)
        have hown3' : w3.ownsRow w2.heap.size 9 1 v' (O ++ [S.drop f]).length ((O ++ [S.drop f]).map byV) := by simpa using hown3
        have HO3 := Lib.hid hown3'
        clear hown3 hown3' hgrow3 hsl
        go_wp2
        go_ret
        exact ⟨_, rfl, by rw [HSP.out]; exact ownsRow_base HO3.out hb2.size, hb2.trans (hB3.mono hb2.size)⟩
      · rw [if_pos (List.drop_eq_nil_of_le (by have := HSS.out; omega)), List.append_nil] at hsp2
        have HSP := Lib.hid hsp2
        clear hsp2 hsp hout
        go_wp2
        go_ret
        exact ⟨_, rfl, by rw [HSP.out]; exact ownsRow_base HO.out hb2.size, hb2.trans (hBw.mono hb2.size)⟩

end Go.Proofs.Ytbdkiiaiadbmbaa
