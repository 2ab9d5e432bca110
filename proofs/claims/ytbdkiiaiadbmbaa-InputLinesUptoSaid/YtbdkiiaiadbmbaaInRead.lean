/- input.Read, input.Text; lives. -/
import Derived.Test.YtbdkiiaiadbmbaaCells
import Derived.Test.YtbdkiiaiadbmbaaLives1
import Derived.Test.YtbdkiiaiadbmbaaStr
import Derived.Test.YtbdkiiaiadbmbaaMend
import Derived.Lib.SlBytesConst
namespace Go.Proofs.Ytbdkiiaiadbmbaa
open Go.RowKit
set_option linter.unusedVariables false
set_option linter.unusedSimpArgs false

theorem encKs_get : ∀ {l : List Cl} {i : Nat} {c : Cl}, l[i]? = some c → ∀ j, j < 4 → (encKs l)[i * 4 + j]? = (encK c)[j]?
  | [], i, c, h, _, _ => by simp at h
  | d :: l, 0, c, h, j, hj => by
    simp at h; subst h
    simp only [encKs, List.flatMap_cons, Nat.zero_mul, Nat.zero_add]
    rw [List.getElem?_append_left (by simp [encK]; omega)]
  | d :: l, i + 1, c, h, j, hj => by
    have ih := encKs_get (l := l) (i := i) (by simpa using h) j hj
    simp only [encKs, List.flatMap_cons] at ih ⊢
    rw [List.getElem?_append_right (by simp [encK]; omega), ← ih]
    congr 1
    simp [encK]; omega
theorem cell_cells {W : World} {g : Nat} {l : List Cl} (h : ∀ (j : Nat) c, (encKs l)[j]? = some c → W.cell? ⟨g, j, none⟩ = some c) {k : Nat} {e : Cl} (he : l[k]? = some e) :
    W.cell? ⟨g, k * 4, none⟩ = some (.int .i32 e.r) ∧ W.cell? ⟨g, k * 4 + 1, none⟩ = some (.int .i64 e.p.b) ∧ W.cell? ⟨g, k * 4 + 2, none⟩ = some (.int .i64 e.p.l) ∧ W.cell? ⟨g, k * 4 + 3, none⟩ = some (.int .i64 e.p.c) := by
  refine ⟨h _ _ ?_, h _ _ ?_, h _ _ ?_, h _ _ ?_⟩
  · have := encKs_get he 0 (by omega); rw [Nat.add_zero] at this; rw [this]; rfl
  · rw [encKs_get he 1 (by omega)]; rfl
  · rw [encKs_get he 2 (by omega)]; rfl
  · rw [encKs_get he 3 (by omega)]; rfl

theorem fits_pl0 : Fits pl0 1099511627776 := ⟨by decide, by decide, by decide, by decide, by decide, by decide⟩

/-- a reader that is made in place -/
theorem read_new (B : Nat) (v : Value) (xs : List Int) (w : World) (hs : SlI .u8 B w v xs) (hB : B ≤ w.heap.size) (hb : Byt xs) (hx : xs.length ≤ 1099511627776) :
    Calls Try.prog 34 #[.pointer (some ⟨w.heap.size, 0, none⟩), v, .bool true] (w.alloc (.cells #[.int .i64 0, .int .i64 1, .int .i64 1, .slice none 0 0] 43)) fun e w' => ∃ u hv', e = .returned u ∧
      RdAt w' w.heap.size 43 [] (pl (gr (wd xs)) pl0) hv' ∧ w'.ownsRow w.heap.size 36 4 u (readOf xs).length (encKs (readOf xs)) ∧ Below w.heap.size w w' := by
  have hb0 : Below w.heap.size w (w.alloc (.cells #[.int .i64 0, .int .i64 1, .int .i64 1, .slice none 0 0] 43)) := (Below.refl _ w).alloc (Nat.le_refl _) _
  have hD : RdAt (w.alloc (.cells #[.int .i64 0, .int .i64 1, .int .i64 1, .slice none 0 0] 43)) w.heap.size 43 [] pl0 (.slice none 0 0) := World.alloc_heap_new w _
  refine (cells_any w.heap.size (w.heap.size + 1) B 43 [] pl0 (.slice none 0 0) v [] xs true _ hD (World.ownsRow_nil _ _ _ _) (by omega) (by simp) (hs.below hb0 hB) (by simp; omega) (fun j x h => by simp at h) hb (by simpa using hx) fits_pl0).mono ?_
  rintro e w' ⟨u, hv', rfl, hD', _, hown, hf⟩
  have hsu : sureOf true ([] ++ xs) = xs.length := by simp [sureOf]
  rw [hsu] at hD' hown
  simp only [List.nil_append, List.take_length] at hD' hown
  have hl : (gr (wd xs)).length = (readOf xs).length := (cl_length _ _).symm
  rw [hl] at hown
  refine ⟨u, hv', rfl, hD', ownsRow_base hown (by simp), hb0.trans (hf.below (by simp) (fun k hk h => ?_))⟩
  rcases h with h | h
  · omega
  · simp [Value.ownBlock] at h

theorem read_cells (B : Nat) (v : Value) (xs : List Int) (w : World) (hs : SlI .u8 B w v xs) (hB : B ≤ w.heap.size) (hb : Byt xs) (hx : xs.length ≤ 1099511627776) :
    Calls Try.prog 13 #[v] w fun e w' => ∃ u, e = .returned u ∧ w'.ownsRow w.heap.size 36 4 u (readOf xs).length (encKs (readOf xs)) ∧ Below w.heap.size w w' := by
  go_enter Try.func13, Try.ntmps13
  go_wp2_with fail
  refine (read_new B v xs w hs hB hb hx).mono ?_
  rintro e w2 ⟨u, hv', rfl, _, hown, hb2⟩
  have HO := Lib.hid hown
  clear hown
  go_wp2
  go_ret
  exact ⟨_, rfl, HO.out, hb2⟩

theorem textOf_length (xs : List Int) : (textOf xs).length = (readOf xs).length := by simp [textOf, readOf, cl_length]
theorem textOf_read (xs : List Int) : textOf xs = (readOf xs).map Cl.r := (cl_runes _ _).symm

set_option maxHeartbeats 1000000 in
theorem text_any (B : Nat) (v : Value) (xs : List Int) (w : World) (hs : SlI .u8 B w v xs) (hB : B ≤ w.heap.size) (hb : Byt xs) (hx : xs.length ≤ 1099511627776) :
    Calls Try.prog 16 #[v] w fun e w' => e = .returned (.string (strOfNums (encs (textOf xs)))) ∧ Below w.heap.size w w' := by
  obtain ⟨i0, hi, hz0, hz1, hz2⟩ := info_parts Try.infoI32
  have hplen := readOf_length xs
  go_enter Try.func16, Try.ntmps16
  go_wp2_with fail
  refine (read_cells _ _ xs _ hs hB hb hx).mono ?_
  rintro e w2 ⟨lv, rfl, hown2, hb2⟩
  obtain ⟨la, lc, rfl, hlc, hln, hlcell⟩ := owns_shape hown2
  have HLC := Lib.hid hlcell
  clear hlcell hln hown2
  go_wp2
  go_loopw [3, 9] (fun u i wr => ∃ k : Nat, i = .int .i64 k ∧ k ≤ (readOf xs).length ∧ wr.ownsRow w2.heap.size 21 1 u k (((textOf xs).take k).map (Value.int .i32)) ∧ Below w2.heap.size w2 wr) (fun _ i _ => (readOf xs).length - (intOf i).toNat)
  case atStart => exact ⟨0, rfl, Nat.zero_le _, World.ownsRow_nil _ _ _ _, Below.refl _ _⟩
  case round =>
    obtain ⟨k, rfl, hk, hown, hBw⟩ := hrel
    by_cases hkn : k < (readOf xs).length
    · obtain ⟨g, rfl, hg1, hg2, hgc⟩ := HLC.out (by omega)
      obtain ⟨c, hck⟩ : ∃ c, (readOf xs)[k]? = some c := ⟨_, List.getElem?_eq_getElem hkn⟩
      obtain ⟨q0, q1, q2, q3⟩ := cell_cells hgc hck
      rw [← hBw.cell (p := ⟨g, k * 4, none⟩) hg2] at q0
      rw [← hBw.cell (p := ⟨g, k * 4 + 1, none⟩) hg2] at q1
      rw [← hBw.cell (p := ⟨g, k * 4 + 2, none⟩) hg2] at q2
      rw [← hBw.cell (p := ⟨g, k * 4 + 3, none⟩) hg2] at q3
      have htk : (textOf xs).take (k + 1) = (textOf xs).take k ++ [c.r] := by
        rw [List.take_add_one, textOf_read]; simp [hck]
      have HO := Lib.hid hown
      have HT := Lib.hid htk
      clear hown htk hgc hck
      go_wp2_with (at_builtin; refine wpList_append_own _ rfl _ _ 69 rfl w2.heap.size 21 i0 (.int .i32 0) 1 4 Try.underlying69 hi hz0 hz1 hz2 rfl (by decide) _ _ _ rfl ((HO.out.alloc _).alloc _) ⟨wr.heap.size + 1, 0, none⟩ 1 1 [.int .i32 c.r] rfl rfl ?c1 ?c2 ?c3 ?c4 ?c5 ?_)
      try (case c1 => intro j u hj; simpa using cells_news (wr.alloc _) _ _ j u hj)
      case c2 => first | rfl | (intro u hu; simp at hu; subst hu; rfl)
      case c3 => unfold maxLen; omega
      case c4 => omega
      case c5 => have := hBw.size; simp; omega
      intro v' w3 hown3 hgrow3 _
      have hB3 : Below w2.heap.size w2 w3 := ((hBw.alloc hBw.size _).alloc (by have := hBw.size; simp; omega) _).grown hgrow3 (by have := hBw.size; simp; omega) (ownBlock_lt HO.out)
      have HO3 := Lib.hid hown3
      clear hown3 hgrow3
      go_wp2
      go_roundw
      case rel => exact ⟨k + 1, by go_num, by omega, by rw [HT.out]; simpa using HO3.out, hB3⟩
      case measure => simp [intOf]; omega
    · obtain rfl : k = (readOf xs).length := by omega
      rw [← textOf_length, List.take_length] at hown
      have hown' : wr.ownsRow w2.heap.size 21 1 _ (textOf xs).length ((textOf xs).map (Value.int .i32)) := hown
      have hcv := run_conv_runes (P := Try.prog) (slI_of_owns hown' (Nat.le_refl _)) 69 9 21 Try.underlying69 Try.underlying21 Try.underlying9
      clear hown hown'
      go_wp2
      go_ret
      exact ⟨rfl, hb2.trans (hBw.mono hb2.size)⟩

theorem slI_litM (k : IntKind) (w : World) (xs : List Int) (e : TypeId) (fr : Nat × Nat) : SlI k (w.heap.size + 1) (w.alloc (.cells (xs.map (Value.int k)).toArray e fr)) (.slice (some ⟨w.heap.size, 0, none⟩) xs.length xs.length) xs :=
  SlI.run (fun j x hj => by
    rw [World.cell?_alloc_mark]
    simp [hj]) (by omega) (Nat.le_refl _)
theorem lives_text : strOfNums (encs (textOf [97, 13, 10, 98, 13, 99, 10])) = ⟨#[97, 10, 98, 10, 99, 10]⟩ := by decide +kernel
theorem lives_len : (readOf [97, 98]).length = 2 := by decide +kernel
theorem lives_p1 : plainOf 133 = 65533 := by decide +kernel
theorem lives_p2 : plainOf 13 = 10 := by decide +kernel

set_option maxHeartbeats 1000000 in
theorem lives3_yes (w : World) : Calls Try.prog 11 #[] w fun e w' => e = .returned (.bool true) ∧ Below w.heap.size w w' := by
  have kc := fun (w : World) (C : Array Value) (n c : Nat) => Lib.run_convert_bytes_const (P := Try.prog) w 25 5 C n c Try.underlying25 Try.underlying5
  go_enter Try.func11, Try.ntmps11
  go_wp2_with fail
  refine (text_any _ _ [97, 13, 10, 98, 13, 99, 10] _ (slI_litM .u8 w _ _ _) (by simp) (byt_of_all (by decide +kernel)) (by simp)).mono ?_
  rw [lives_text]
  rintro e w1 ⟨rfl, hb1⟩
  have hB1 : Below w.heap.size w w1 := ((Below.refl _ w).alloc (Nat.le_refl _) _).trans (hb1.mono (by simp))
  clear hb1
  go_wp2_with fail
  refine (plain_any _ _).mono ?_
  rw [lives_p1]
  rintro e w' ⟨rfl, rfl⟩
  go_wp2_with fail
  refine (plain_any _ _).mono ?_
  rw [lives_p2]
  rintro e w' ⟨rfl, rfl⟩
  go_wp2_with fail
  refine (read_cells _ _ [97, 98] _ (slI_litM .u8 w1 _ _ _) (by simp) (byt_of_all (by decide +kernel)) (by simp)).mono ?_
  rw [lives_len]
  rintro e w2 ⟨u, rfl, hown, hb2⟩
  obtain ⟨la, lc, rfl, _, _, _⟩ := owns_shape hown
  have hB2 : Below w.heap.size w w2 := hB1.trans ((((Below.refl w1.heap.size w1).alloc (Nat.le_refl _) _).trans (hb2.mono (by simp))).mono hB1.size)
  clear hown hb2
  go_wp2_with fail
  go_ret
  exact ⟨rfl, hB2⟩

end Go.Proofs.Ytbdkiiaiadbmbaa
