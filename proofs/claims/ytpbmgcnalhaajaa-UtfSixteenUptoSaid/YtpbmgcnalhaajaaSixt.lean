/- utf.Sixteen, FromSixteen; sieveref01.Sixteen, FromSixteen. -/
import Derived.Test.YtpbmgcnalhaajaaBytes
import Derived.Test.YtpbmgcnalhaajaaU16
namespace Go.Proofs.Ytpbmgcnalhaajaa
open Go.RowKit
set_option linter.unusedVariables false
set_option linter.unusedSimpArgs false

theorem Try.infoU16b : (Try.prog.info? 81).map (fun i => (i.zero, i.size, i.bytes)) = some (some (.int .u16 0), 1, 2) := by kernel_rfl

set_option maxHeartbeats 2000000 in
theorem utfsixteen_any (B : Nat) (v : Value) (xs : List Int) (w : World) (hs : SlI .i32 B w v xs) (hB : B ≤ w.heap.size) (hx : xs.length ≤ 274877906944) :
    Calls Try.prog 27 #[v] w fun e w' => ∃ u, e = .returned u ∧ w'.ownsRow w.heap.size 81 1 u (u16s xs).length ((u16s xs).map (Value.int .u16)) ∧ Below w.heap.size w w' := by
  obtain ⟨i0, hi, hz0, hz1, hz2⟩ := info_parts Try.infoU16b
  obtain ⟨ao, cap, rfl, hc, hn, hr⟩ := hs
  go_enter Try.func27, Try.ntmps27
  go_wp2
  go_loopw [3, 8] (fun u i wr => ∃ k : Nat, i = .int .i64 k ∧ k ≤ xs.length ∧ wr.ownsRow w.heap.size 81 1 u (u16s (xs.take k)).length ((u16s (xs.take k)).map (Value.int .u16)) ∧ Below w.heap.size w wr) (fun _ i _ => xs.length - (intOf i).toNat)
  case atStart => exact ⟨0, rfl, Nat.zero_le _, World.ownsRow_nil _ _ _ _, Below.refl _ _⟩
  case round =>
    obtain ⟨k, rfl, hk, hown, hBw⟩ := hrel
    by_cases hkn : k < xs.length
    · obtain ⟨b, off, rfl, hlt, hrun⟩ := hr (by omega)
      obtain ⟨c, hxk⟩ := get_of_lt xs hkn
      have hcx : wr.cell? ⟨b, off + k, none⟩ = some (.int .i32 c) := (hBw.cell (p := ⟨b, off + k, none⟩) (by show b < w.heap.size; omega)).trans (hrun k c hxk)
      have htk := take_succ_get hxk
      have hel := u16s_length (xs.take k)
      have hel2 : (xs.take k).length ≤ k := List.length_take_le _ _
      have hel4 : (u16s (xs.take k)).length + 2 ≤ 2199023255552 := by omega
      have HO := Lib.hid hown
      have HT := Lib.hid htk
      clear hxk hown htk hel hel2
      cases hg : goodB c
      · have HG := Lib.hid hg
        have HE := Lib.hid (u16R_bad hg)
        clear hg
        go_wp2_with (first
          | (go_at_call 50; refine (utfgood_is c false _ HG).mono ?_; rintro e w' ⟨rfl, rfl⟩)
          | (at_builtin; refine wpList_append_own _ rfl _ _ 44 rfl w.heap.size 81 i0 (.int .u16 0) 1 2 Try.underlying44 hi hz0 hz1 hz2 rfl (by decide) _ _ _ rfl (HO.out.alloc _) ⟨wr.heap.size, 0, none⟩ 1 1 [.int .u16 (65533)] rfl rfl ?c1a ?c2a ?c3a ?c4a ?c5a ?_))
        try (case c1a => exact cells_news _ _ _)
        case c2a => first | rfl | (intro u hu; simp at hu; subst hu; rfl)
        case c3a => unfold maxLen; omega
        case c4a => omega
        case c5a => have := hBw.size; simp; omega
        intro v' w3 hown3 hgrow3 _
        have hB3 : Below w.heap.size w w3 := (hBw.alloc hBw.size _).grown hgrow3 (by have := hBw.size; simp; omega) (ownBlock_lt HO.out)
        have HO3 := Lib.hid hown3
        clear hown3 hgrow3
        go_wp2
        go_roundw
        case rel => exact ⟨k + 1, by go_num, by omega, by rw [HT.out, u16s_snoc, HE.out]; simpa using HO3.out, hB3⟩
        case measure => simp [intOf]; omega
      · have h := (goodB_iff c).1 hg
        have h0 := h.1
        have h1 := h.2.1
        clear h
        by_cases h6 : c < 65536
        · have HG := Lib.hid hg
          have HE := Lib.hid (u16R_low hg h6)
          clear hg
          go_wp2_with (first
            | (go_at_call 50; refine (utfgood_is c true _ HG).mono ?_; rintro e w' ⟨rfl, rfl⟩)
            | (at_builtin; refine wpList_append_own _ rfl _ _ 44 rfl w.heap.size 81 i0 (.int .u16 0) 1 2 Try.underlying44 hi hz0 hz1 hz2 rfl (by decide) _ _ _ rfl (HO.out.alloc _) ⟨wr.heap.size, 0, none⟩ 1 1 [.int .u16 (c)] rfl rfl ?c1b ?c2b ?c3b ?c4b ?c5b ?_))
          try (case c1b => exact cells_news _ _ _)
          case c2b => first | rfl | (intro u hu; simp at hu; subst hu; rfl)
          case c3b => unfold maxLen; omega
          case c4b => omega
          case c5b => have := hBw.size; simp; omega
          intro v' w3 hown3 hgrow3 _
          have hB3 : Below w.heap.size w w3 := (hBw.alloc hBw.size _).grown hgrow3 (by have := hBw.size; simp; omega) (ownBlock_lt HO.out)
          have HO3 := Lib.hid hown3
          clear hown3 hgrow3
          go_wp2
          go_roundw
          case rel => exact ⟨k + 1, by go_num, by omega, by rw [HT.out, u16s_snoc, HE.out]; simpa using HO3.out, hB3⟩
          case measure => simp [intOf]; omega
        · have HG := Lib.hid hg
          have HE := Lib.hid (u16R_high hg h6)
          clear hg
          have b1 : bits .and .i32 (c - 65536) 1023 = (c - 65536) % 1024 := i32_and1023 _ (by omega) (by omega)
          go_wp2_with (first
            | (go_at_call 50; refine (utfgood_is c true _ HG).mono ?_; rintro e w' ⟨rfl, rfl⟩)
            | (at_builtin; refine wpList_append_own _ rfl _ _ 44 rfl w.heap.size 81 i0 (.int .u16 0) 1 2 Try.underlying44 hi hz0 hz1 hz2 rfl (by decide) _ _ _ rfl (HO.out.alloc _) ⟨wr.heap.size, 0, none⟩ 2 2 [.int .u16 (55296 + (c - 65536) / 1024), .int .u16 (56320 + (c - 65536) % 1024)] rfl rfl ?c1c ?c2c ?c3c ?c4c ?c5c ?_))
          try (case c1c => exact cells_news _ _ _)
          case c2c => first | rfl | (intro u hu; simp at hu; rcases hu with rfl | rfl <;> rfl)
          case c3c => unfold maxLen; omega
          case c4c => omega
          case c5c => have := hBw.size; simp; omega
          intro v' w3 hown3 hgrow3 _
          have hB3 : Below w.heap.size w w3 := (hBw.alloc hBw.size _).grown hgrow3 (by have := hBw.size; simp; omega) (ownBlock_lt HO.out)
          have HO3 := Lib.hid hown3
          clear hown3 hgrow3
          go_wp2
          go_roundw
          case rel => exact ⟨k + 1, by go_num, by omega, by rw [HT.out, u16s_snoc, HE.out]; simpa using HO3.out, hB3⟩
          case measure => simp [intOf]; omega
    · obtain rfl : k = xs.length := by omega
      rw [List.take_length] at hown
      go_wp2
      go_ret
      exact ⟨_, rfl, hown, hBw⟩

set_option maxHeartbeats 2000000 in
theorem refsixteen_any (B : Nat) (v : Value) (xs : List Int) (w : World) (hs : SlI .i32 B w v xs) (hB : B ≤ w.heap.size) (hx : xs.length ≤ 274877906944) :
    Calls Try.prog 30 #[v] w fun e w' => ∃ u, e = .returned u ∧ w'.ownsRow w.heap.size 81 1 u (u16s xs).length ((u16s xs).map (Value.int .u16)) ∧ Below w.heap.size w w' := by
  obtain ⟨i0, hi, hz0, hz1, hz2⟩ := info_parts Try.infoU16b
  obtain ⟨ao, cap, rfl, hc, hn, hr⟩ := hs
  go_enter Try.func30, Try.ntmps30
  go_wp2
  go_loopw [3, 9] (fun u i wr => ∃ k : Nat, i = .int .i64 k ∧ k ≤ xs.length ∧ wr.ownsRow w.heap.size 81 1 u (u16s (xs.take k)).length ((u16s (xs.take k)).map (Value.int .u16)) ∧ Below w.heap.size w wr) (fun _ i _ => xs.length - (intOf i).toNat)
  case atStart => exact ⟨0, rfl, Nat.zero_le _, World.ownsRow_nil _ _ _ _, Below.refl _ _⟩
  case round =>
    obtain ⟨k, rfl, hk, hown, hBw⟩ := hrel
    by_cases hkn : k < xs.length
    · obtain ⟨b, off, rfl, hlt, hrun⟩ := hr (by omega)
      obtain ⟨c, hxk⟩ := get_of_lt xs hkn
      have hcx : wr.cell? ⟨b, off + k, none⟩ = some (.int .i32 c) := (hBw.cell (p := ⟨b, off + k, none⟩) (by show b < w.heap.size; omega)).trans (hrun k c hxk)
      have htk := take_succ_get hxk
      have hel := u16s_length (xs.take k)
      have hel2 : (xs.take k).length ≤ k := List.length_take_le _ _
      have hel4 : (u16s (xs.take k)).length + 2 ≤ 2199023255552 := by omega
      have HO := Lib.hid hown
      have HT := Lib.hid htk
      clear hxk hown htk hel hel2
      cases hg : goodB c
      · have HG := Lib.hid hg
        have HE := Lib.hid (u16R_bad hg)
        clear hg
        go_wp2_with (first
          | (go_at_call 32; refine (refchar_is c false _ HG).mono ?_; rintro e w' ⟨rfl, rfl⟩)
          | (at_builtin; refine wpList_append_own _ rfl _ _ 44 rfl w.heap.size 81 i0 (.int .u16 0) 1 2 Try.underlying44 hi hz0 hz1 hz2 rfl (by decide) _ _ _ rfl (HO.out.alloc _) ⟨wr.heap.size, 0, none⟩ 1 1 [.int .u16 (65533)] rfl rfl ?c1a ?c2a ?c3a ?c4a ?c5a ?_))
        try (case c1a => exact cells_news _ _ _)
        case c2a => first | rfl | (intro u hu; simp at hu; subst hu; rfl)
        case c3a => unfold maxLen; omega
        case c4a => omega
        case c5a => have := hBw.size; simp; omega
        intro v' w3 hown3 hgrow3 _
        have hB3 : Below w.heap.size w w3 := (hBw.alloc hBw.size _).grown hgrow3 (by have := hBw.size; simp; omega) (ownBlock_lt HO.out)
        have HO3 := Lib.hid hown3
        clear hown3 hgrow3
        go_wp2
        go_roundw
        case rel => exact ⟨k + 1, by go_num, by omega, by rw [HT.out, u16s_snoc, HE.out]; simpa using HO3.out, hB3⟩
        case measure => simp [intOf]; omega
      · have h := (goodB_iff c).1 hg
        have h0 := h.1
        have h1 := h.2.1
        clear h
        by_cases h6 : c < 65536
        · have HG := Lib.hid hg
          have HE := Lib.hid (u16R_low hg h6)
          clear hg
          go_wp2_with (first
            | (go_at_call 32; refine (refchar_is c true _ HG).mono ?_; rintro e w' ⟨rfl, rfl⟩)
            | (at_builtin; refine wpList_append_own _ rfl _ _ 44 rfl w.heap.size 81 i0 (.int .u16 0) 1 2 Try.underlying44 hi hz0 hz1 hz2 rfl (by decide) _ _ _ rfl (HO.out.alloc _) ⟨wr.heap.size, 0, none⟩ 1 1 [.int .u16 (c)] rfl rfl ?c1b ?c2b ?c3b ?c4b ?c5b ?_))
          try (case c1b => exact cells_news _ _ _)
          case c2b => first | rfl | (intro u hu; simp at hu; subst hu; rfl)
          case c3b => unfold maxLen; omega
          case c4b => omega
          case c5b => have := hBw.size; simp; omega
          intro v' w3 hown3 hgrow3 _
          have hB3 : Below w.heap.size w w3 := (hBw.alloc hBw.size _).grown hgrow3 (by have := hBw.size; simp; omega) (ownBlock_lt HO.out)
          have HO3 := Lib.hid hown3
          clear hown3 hgrow3
          go_wp2
          go_roundw
          case rel => exact ⟨k + 1, by go_num, by omega, by rw [HT.out, u16s_snoc, HE.out]; simpa using HO3.out, hB3⟩
          case measure => simp [intOf]; omega
        · have HG := Lib.hid hg
          have HE := Lib.hid (u16R_high hg h6)
          clear hg
          have b1 : bits .and .i32 (c - 65536) 1023 = (c - 65536) % 1024 := i32_and1023 _ (by omega) (by omega)
          go_wp2_with (first
            | (go_at_call 32; refine (refchar_is c true _ HG).mono ?_; rintro e w' ⟨rfl, rfl⟩)
            | (at_builtin; refine wpList_append_own _ rfl _ _ 44 rfl w.heap.size 81 i0 (.int .u16 0) 1 2 Try.underlying44 hi hz0 hz1 hz2 rfl (by decide) _ _ _ rfl (HO.out.alloc _) ⟨wr.heap.size, 0, none⟩ 2 2 [.int .u16 (55296 + (c - 65536) / 1024), .int .u16 (56320 + (c - 65536) % 1024)] rfl rfl ?c1c ?c2c ?c3c ?c4c ?c5c ?_))
          try (case c1c => exact cells_news _ _ _)
          case c2c => first | rfl | (intro u hu; simp at hu; rcases hu with rfl | rfl <;> rfl)
          case c3c => unfold maxLen; omega
          case c4c => omega
          case c5c => have := hBw.size; simp; omega
          intro v' w3 hown3 hgrow3 _
          have hB3 : Below w.heap.size w w3 := (hBw.alloc hBw.size _).grown hgrow3 (by have := hBw.size; simp; omega) (ownBlock_lt HO.out)
          have HO3 := Lib.hid hown3
          clear hown3 hgrow3
          go_wp2
          go_roundw
          case rel => exact ⟨k + 1, by go_num, by omega, by rw [HT.out, u16s_snoc, HE.out]; simpa using HO3.out, hB3⟩
          case measure => simp [intOf]; omega
    · obtain rfl : k = xs.length := by omega
      rw [List.take_length] at hown
      go_wp2
      go_ret
      exact ⟨_, rfl, hown, hBw⟩

set_option maxHeartbeats 4000000 in
theorem utffrom_any (B : Nat) (v : Value) (xs : List Int) (w : World) (hs : SlI .u16 B w v xs) (hB : B ≤ w.heap.size) (hx : xs.length ≤ 274877906944) (hu : ∀ a ∈ xs, 0 ≤ a ∧ a < 65536) :
    Calls Try.prog 28 #[v] w fun e w' => ∃ u, e = .returned u ∧ w'.ownsRow w.heap.size 21 1 u (fs xs).length ((fs xs).map (Value.int .i32)) ∧ Below w.heap.size w w' := by
  obtain ⟨i0, hi, hz0, hz1, hz2⟩ := info_parts Try.infoI32
  obtain ⟨ao, cap, rfl, hc, hn, hr⟩ := hs
  go_enter Try.func28, Try.ntmps28
  go_wp2
  go_loopw [3, 4] (fun u i wr => ∃ (k : Nat) (pre : List Int), i = .int .i64 k ∧ k ≤ xs.length ∧ pre.length ≤ k ∧ fs xs = pre ++ fs (xs.drop k) ∧ wr.ownsRow w.heap.size 21 1 u pre.length (pre.map (Value.int .i32)) ∧ Below w.heap.size w wr) (fun _ i _ => xs.length - (intOf i).toNat)
  case atStart => exact ⟨0, [], rfl, Nat.zero_le _, Nat.le_refl _, rfl, World.ownsRow_nil _ _ _ _, Below.refl _ _⟩
  case round =>
    obtain ⟨k, pre, rfl, hk, hpk, hfs, hown, hBw⟩ := hrel
    by_cases hkn : k < xs.length
    · obtain ⟨b, off, rfl, hlt, hrun⟩ := hr (by omega)
      obtain ⟨a, hxk⟩ := get_of_lt xs hkn
      obtain ⟨ha0, ha1⟩ := hu a (List.mem_of_getElem? hxk)
      have hcx : wr.cell? ⟨b, off + k, none⟩ = some (.int .u16 a) := (hBw.cell (p := ⟨b, off + k, none⟩) (by show b < w.heap.size; omega)).trans (hrun k a hxk)
      have hnx : k + 1 < xs.length → ∃ c, xs[k + 1]? = some c ∧ (0 ≤ c ∧ c < 65536) ∧ wr.cell? ⟨b, off + (k + 1), none⟩ = some (.int .u16 c) := by
        intro h
        obtain ⟨c, hc⟩ := get_of_lt xs h
        exact ⟨c, hc, hu c (List.mem_of_getElem? hc), (hBw.cell (p := ⟨b, off + (k + 1), none⟩) (by show b < w.heap.size; omega)).trans (hrun (k + 1) c hc)⟩
      have hdr := drop_get hxk
      rw [hdr] at hfs
      have HO := Lib.hid hown
      clear hown hdr
      rcases (show a < 55296 ∨ 57343 < a ∨ (55296 ≤ a ∧ a ≤ 56319) ∨ (56320 ≤ a ∧ a ≤ 57343) from by omega) with h | h | ⟨h, h2⟩ | ⟨h, h2⟩
      · skip
        have HF := Lib.hid (show fs xs = (pre ++ [a]) ++ fs (xs.drop (k + 1)) from by rw [hfs, fs_out (.inl h)]; simp)
        clear hfs hxk hnx
        go_wp2_with (first
          | (at_builtin; refine wpList_append_own _ rfl _ _ 36 rfl w.heap.size 21 i0 (.int .i32 0) 1 4 Try.underlying36 hi hz0 hz1 hz2 rfl (by decide) _ _ _ rfl (HO.out.alloc _) ⟨wr.heap.size, 0, none⟩ 1 1 [.int .i32 (a)] rfl rfl ?c1a ?c2a ?c3a ?c4a ?c5a ?_))
        try (case c1a => exact cells_news _ _ _)
        case c2a => first | rfl | (intro u hu; simp at hu; subst hu; rfl)
        case c3a => unfold maxLen; omega
        case c4a => omega
        case c5a => have := hBw.size; simp; omega
        intro v' w3 hown3 hgrow3 _
        have hB3 : Below w.heap.size w w3 := (hBw.alloc hBw.size _).grown hgrow3 (by have := hBw.size; simp; omega) (ownBlock_lt HO.out)
        have HO3 := Lib.hid hown3
        clear hown3 hgrow3
        go_wp2
        go_roundw
        case rel => exact ⟨k + 1, pre ++ [a], by go_num, by omega, by simp; omega, HF.out, by simpa using HO3.out, hB3⟩
        case measure => simp [intOf]; omega
      · skip
        have HF := Lib.hid (show fs xs = (pre ++ [a]) ++ fs (xs.drop (k + 1)) from by rw [hfs, fs_out (.inr h)]; simp)
        clear hfs hxk hnx
        have g1 : decide (a < 55296) = false := by simp; omega
        go_wp2_with (first
          | (at_builtin; refine wpList_append_own _ rfl _ _ 36 rfl w.heap.size 21 i0 (.int .i32 0) 1 4 Try.underlying36 hi hz0 hz1 hz2 rfl (by decide) _ _ _ rfl (HO.out.alloc _) ⟨wr.heap.size, 0, none⟩ 1 1 [.int .i32 (a)] rfl rfl ?c1b ?c2b ?c3b ?c4b ?c5b ?_))
        try (case c1b => exact cells_news _ _ _)
        case c2b => first | rfl | (intro u hu; simp at hu; subst hu; rfl)
        case c3b => unfold maxLen; omega
        case c4b => omega
        case c5b => have := hBw.size; simp; omega
        intro v' w3 hown3 hgrow3 _
        have hB3 : Below w.heap.size w w3 := (hBw.alloc hBw.size _).grown hgrow3 (by have := hBw.size; simp; omega) (ownBlock_lt HO.out)
        have HO3 := Lib.hid hown3
        clear hown3 hgrow3
        go_wp2
        go_roundw
        case rel => exact ⟨k + 1, pre ++ [a], by go_num, by omega, by simp; omega, HF.out, by simpa using HO3.out, hB3⟩
        case measure => simp [intOf]; omega
      · by_cases hkl : k + 1 < xs.length
        · obtain ⟨c, hck, ⟨hc0, hc1⟩, hcc⟩ := hnx hkl
          rcases (show c < 56320 ∨ 57343 < c ∨ (56320 ≤ c ∧ c ≤ 57343) from by omega) with h3 | h3 | ⟨h3, h4⟩
          · skip
            have HF := Lib.hid (show fs xs = (pre ++ [65533]) ++ fs (xs.drop (k + 1)) from by rw [hfs, fs_lone ⟨h, by omega⟩ (.inr fun b hb => by rw [drop_zero_get, hck] at hb; cases hb; omega)]; simp)
            clear hfs hxk hnx
            go_wp2_with (first
              | (at_builtin; refine wpList_append_own _ rfl _ _ 36 rfl w.heap.size 21 i0 (.int .i32 0) 1 4 Try.underlying36 hi hz0 hz1 hz2 rfl (by decide) _ _ _ rfl (HO.out.alloc _) ⟨wr.heap.size, 0, none⟩ 1 1 [.int .i32 (65533)] rfl rfl ?c1c ?c2c ?c3c ?c4c ?c5c ?_))
            try (case c1c => exact cells_news _ _ _)
            case c2c => first | rfl | (intro u hu; simp at hu; subst hu; rfl)
            case c3c => unfold maxLen; omega
            case c4c => omega
            case c5c => have := hBw.size; simp; omega
            intro v' w3 hown3 hgrow3 _
            have hB3 : Below w.heap.size w w3 := (hBw.alloc hBw.size _).grown hgrow3 (by have := hBw.size; simp; omega) (ownBlock_lt HO.out)
            have HO3 := Lib.hid hown3
            clear hown3 hgrow3
            go_wp2
            go_roundw
            case rel => exact ⟨k + 1, pre ++ [65533], by go_num, by omega, by simp; omega, HF.out, by simpa using HO3.out, hB3⟩
            case measure => simp [intOf]; omega
          · skip
            have HF := Lib.hid (show fs xs = (pre ++ [65533]) ++ fs (xs.drop (k + 1)) from by rw [hfs, fs_lone ⟨h, by omega⟩ (.inr fun b hb => by rw [drop_zero_get, hck] at hb; cases hb; omega)]; simp)
            clear hfs hxk hnx
            go_wp2_with (first
              | (at_builtin; refine wpList_append_own _ rfl _ _ 36 rfl w.heap.size 21 i0 (.int .i32 0) 1 4 Try.underlying36 hi hz0 hz1 hz2 rfl (by decide) _ _ _ rfl (HO.out.alloc _) ⟨wr.heap.size, 0, none⟩ 1 1 [.int .i32 (65533)] rfl rfl ?c1d ?c2d ?c3d ?c4d ?c5d ?_))
            try (case c1d => exact cells_news _ _ _)
            case c2d => first | rfl | (intro u hu; simp at hu; subst hu; rfl)
            case c3d => unfold maxLen; omega
            case c4d => omega
            case c5d => have := hBw.size; simp; omega
            intro v' w3 hown3 hgrow3 _
            have hB3 : Below w.heap.size w w3 := (hBw.alloc hBw.size _).grown hgrow3 (by have := hBw.size; simp; omega) (ownBlock_lt HO.out)
            have HO3 := Lib.hid hown3
            clear hown3 hgrow3
            go_wp2
            go_roundw
            case rel => exact ⟨k + 1, pre ++ [65533], by go_num, by omega, by simp; omega, HF.out, by simpa using HO3.out, hB3⟩
            case measure => simp [intOf]; omega
          · have hdr2 := drop_get hck
            have HF := Lib.hid (show fs xs = (pre ++ [65536 + (a - 55296) * 1024 + c - 56320]) ++ fs (xs.drop (k + 2)) from by rw [hfs, hdr2, fs_pair _ (by omega)]; simp)
            clear hfs hxk hnx
            go_wp2_with (first
              | (at_builtin; refine wpList_append_own _ rfl _ _ 36 rfl w.heap.size 21 i0 (.int .i32 0) 1 4 Try.underlying36 hi hz0 hz1 hz2 rfl (by decide) _ _ _ rfl (HO.out.alloc _) ⟨wr.heap.size, 0, none⟩ 1 1 [.int .i32 (65536 + (a - 55296) * 1024 + c - 56320)] rfl rfl ?c1e ?c2e ?c3e ?c4e ?c5e ?_))
            try (case c1e => exact cells_news _ _ _)
            case c2e => first | rfl | (intro u hu; simp at hu; subst hu; rfl)
            case c3e => unfold maxLen; omega
            case c4e => omega
            case c5e => have := hBw.size; simp; omega
            intro v' w3 hown3 hgrow3 _
            have hB3 : Below w.heap.size w w3 := (hBw.alloc hBw.size _).grown hgrow3 (by have := hBw.size; simp; omega) (ownBlock_lt HO.out)
            have HO3 := Lib.hid hown3
            clear hown3 hgrow3
            go_wp2
            go_roundw
            case rel => exact ⟨k + 2, pre ++ [65536 + (a - 55296) * 1024 + c - 56320], by go_num, by omega, by simp; omega, HF.out, by simpa using HO3.out, hB3⟩
            case measure => simp [intOf]; omega
        · have g2 : decide ((k : Int) + 1 < (xs.length : Int)) = false := by simp; omega
          have HF := Lib.hid (show fs xs = (pre ++ [65533]) ++ fs (xs.drop (k + 1)) from by rw [hfs, fs_lone ⟨h, by omega⟩ (.inr fun b hb => by rw [drop_zero_get, List.getElem?_eq_none (by omega)] at hb; cases hb)]; simp)
          clear hfs hxk hnx
          go_wp2_with (first
            | (at_builtin; refine wpList_append_own _ rfl _ _ 36 rfl w.heap.size 21 i0 (.int .i32 0) 1 4 Try.underlying36 hi hz0 hz1 hz2 rfl (by decide) _ _ _ rfl (HO.out.alloc _) ⟨wr.heap.size, 0, none⟩ 1 1 [.int .i32 (65533)] rfl rfl ?c1f ?c2f ?c3f ?c4f ?c5f ?_))
          try (case c1f => exact cells_news _ _ _)
          case c2f => first | rfl | (intro u hu; simp at hu; subst hu; rfl)
          case c3f => unfold maxLen; omega
          case c4f => omega
          case c5f => have := hBw.size; simp; omega
          intro v' w3 hown3 hgrow3 _
          have hB3 : Below w.heap.size w w3 := (hBw.alloc hBw.size _).grown hgrow3 (by have := hBw.size; simp; omega) (ownBlock_lt HO.out)
          have HO3 := Lib.hid hown3
          clear hown3 hgrow3
          go_wp2
          go_roundw
          case rel => exact ⟨k + 1, pre ++ [65533], by go_num, by omega, by simp; omega, HF.out, by simpa using HO3.out, hB3⟩
          case measure => simp [intOf]; omega
      · skip
        have HF := Lib.hid (show fs xs = (pre ++ [65533]) ++ fs (xs.drop (k + 1)) from by rw [hfs, fs_lone ⟨by omega, h2⟩ (.inl h)]; simp)
        clear hfs hxk hnx
        go_wp2_with (first
          | (at_builtin; refine wpList_append_own _ rfl _ _ 36 rfl w.heap.size 21 i0 (.int .i32 0) 1 4 Try.underlying36 hi hz0 hz1 hz2 rfl (by decide) _ _ _ rfl (HO.out.alloc _) ⟨wr.heap.size, 0, none⟩ 1 1 [.int .i32 (65533)] rfl rfl ?c1g ?c2g ?c3g ?c4g ?c5g ?_))
        try (case c1g => exact cells_news _ _ _)
        case c2g => first | rfl | (intro u hu; simp at hu; subst hu; rfl)
        case c3g => unfold maxLen; omega
        case c4g => omega
        case c5g => have := hBw.size; simp; omega
        intro v' w3 hown3 hgrow3 _
        have hB3 : Below w.heap.size w w3 := (hBw.alloc hBw.size _).grown hgrow3 (by have := hBw.size; simp; omega) (ownBlock_lt HO.out)
        have HO3 := Lib.hid hown3
        clear hown3 hgrow3
        go_wp2
        go_roundw
        case rel => exact ⟨k + 1, pre ++ [65533], by go_num, by omega, by simp; omega, HF.out, by simpa using HO3.out, hB3⟩
        case measure => simp [intOf]; omega
    · obtain rfl : k = xs.length := by omega
      have hl : fs xs = pre := by rw [hfs]; simp [fs]
      rw [← hl] at hown
      go_wp2
      go_ret
      exact ⟨_, rfl, hown, hBw⟩

set_option maxHeartbeats 4000000 in
theorem reffrom_any (B : Nat) (v : Value) (xs : List Int) (w : World) (hs : SlI .u16 B w v xs) (hB : B ≤ w.heap.size) (hx : xs.length ≤ 274877906944) (hu : ∀ a ∈ xs, 0 ≤ a ∧ a < 65536) :
    Calls Try.prog 31 #[v] w fun e w' => ∃ u, e = .returned u ∧ w'.ownsRow w.heap.size 21 1 u (fs xs).length ((fs xs).map (Value.int .i32)) ∧ Below w.heap.size w w' := by
  obtain ⟨i0, hi, hz0, hz1, hz2⟩ := info_parts Try.infoI32
  obtain ⟨ao, cap, rfl, hc, hn, hr⟩ := hs
  go_enter Try.func31, Try.ntmps31
  go_wp2
  go_loopw [3, 4] (fun u i wr => ∃ (k : Nat) (pre : List Int), i = .int .i64 k ∧ k ≤ xs.length ∧ pre.length ≤ k ∧ fs xs = pre ++ fs (xs.drop k) ∧ wr.ownsRow w.heap.size 21 1 u pre.length (pre.map (Value.int .i32)) ∧ Below w.heap.size w wr) (fun _ i _ => xs.length - (intOf i).toNat)
  case atStart => exact ⟨0, [], rfl, Nat.zero_le _, Nat.le_refl _, rfl, World.ownsRow_nil _ _ _ _, Below.refl _ _⟩
  case round =>
    obtain ⟨k, pre, rfl, hk, hpk, hfs, hown, hBw⟩ := hrel
    by_cases hkn : k < xs.length
    · obtain ⟨b, off, rfl, hlt, hrun⟩ := hr (by omega)
      obtain ⟨a, hxk⟩ := get_of_lt xs hkn
      obtain ⟨ha0, ha1⟩ := hu a (List.mem_of_getElem? hxk)
      have hcx : wr.cell? ⟨b, off + k, none⟩ = some (.int .u16 a) := (hBw.cell (p := ⟨b, off + k, none⟩) (by show b < w.heap.size; omega)).trans (hrun k a hxk)
      have hnx : k + 1 < xs.length → ∃ c, xs[k + 1]? = some c ∧ (0 ≤ c ∧ c < 65536) ∧ wr.cell? ⟨b, off + (k + 1), none⟩ = some (.int .u16 c) := by
        intro h
        obtain ⟨c, hc⟩ := get_of_lt xs h
        exact ⟨c, hc, hu c (List.mem_of_getElem? hc), (hBw.cell (p := ⟨b, off + (k + 1), none⟩) (by show b < w.heap.size; omega)).trans (hrun (k + 1) c hc)⟩
      have hdr := drop_get hxk
      rw [hdr] at hfs
      have HO := Lib.hid hown
      clear hown hdr
      rcases (show a < 55296 ∨ 57343 < a ∨ (55296 ≤ a ∧ a ≤ 56319) ∨ (56320 ≤ a ∧ a ≤ 57343) from by omega) with h | h | ⟨h, h2⟩ | ⟨h, h2⟩
      · skip
        have HF := Lib.hid (show fs xs = (pre ++ [a]) ++ fs (xs.drop (k + 1)) from by rw [hfs, fs_out (.inl h)]; simp)
        clear hfs hxk hnx
        go_wp2_with (first
          | (at_builtin; refine wpList_append_own _ rfl _ _ 36 rfl w.heap.size 21 i0 (.int .i32 0) 1 4 Try.underlying36 hi hz0 hz1 hz2 rfl (by decide) _ _ _ rfl (HO.out.alloc _) ⟨wr.heap.size, 0, none⟩ 1 1 [.int .i32 (a)] rfl rfl ?c1a ?c2a ?c3a ?c4a ?c5a ?_))
        try (case c1a => exact cells_news _ _ _)
        case c2a => first | rfl | (intro u hu; simp at hu; subst hu; rfl)
        case c3a => unfold maxLen; omega
        case c4a => omega
        case c5a => have := hBw.size; simp; omega
        intro v' w3 hown3 hgrow3 _
        have hB3 : Below w.heap.size w w3 := (hBw.alloc hBw.size _).grown hgrow3 (by have := hBw.size; simp; omega) (ownBlock_lt HO.out)
        have HO3 := Lib.hid hown3
        clear hown3 hgrow3
        go_wp2
        go_roundw
        case rel => exact ⟨k + 1, pre ++ [a], by go_num, by omega, by simp; omega, HF.out, by simpa using HO3.out, hB3⟩
        case measure => simp [intOf]; omega
      · skip
        have HF := Lib.hid (show fs xs = (pre ++ [a]) ++ fs (xs.drop (k + 1)) from by rw [hfs, fs_out (.inr h)]; simp)
        clear hfs hxk hnx
        have g1 : decide (a < 55296) = false := by simp; omega
        go_wp2_with (first
          | (at_builtin; refine wpList_append_own _ rfl _ _ 36 rfl w.heap.size 21 i0 (.int .i32 0) 1 4 Try.underlying36 hi hz0 hz1 hz2 rfl (by decide) _ _ _ rfl (HO.out.alloc _) ⟨wr.heap.size, 0, none⟩ 1 1 [.int .i32 (a)] rfl rfl ?c1b ?c2b ?c3b ?c4b ?c5b ?_))
        try (case c1b => exact cells_news _ _ _)
        case c2b => first | rfl | (intro u hu; simp at hu; subst hu; rfl)
        case c3b => unfold maxLen; omega
        case c4b => omega
        case c5b => have := hBw.size; simp; omega
        intro v' w3 hown3 hgrow3 _
        have hB3 : Below w.heap.size w w3 := (hBw.alloc hBw.size _).grown hgrow3 (by have := hBw.size; simp; omega) (ownBlock_lt HO.out)
        have HO3 := Lib.hid hown3
        clear hown3 hgrow3
        go_wp2
        go_roundw
        case rel => exact ⟨k + 1, pre ++ [a], by go_num, by omega, by simp; omega, HF.out, by simpa using HO3.out, hB3⟩
        case measure => simp [intOf]; omega
      · by_cases hkl : k + 1 < xs.length
        · obtain ⟨c, hck, ⟨hc0, hc1⟩, hcc⟩ := hnx hkl
          rcases (show c < 56320 ∨ 57343 < c ∨ (56320 ≤ c ∧ c ≤ 57343) from by omega) with h3 | h3 | ⟨h3, h4⟩
          · skip
            have HF := Lib.hid (show fs xs = (pre ++ [65533]) ++ fs (xs.drop (k + 1)) from by rw [hfs, fs_lone ⟨h, by omega⟩ (.inr fun b hb => by rw [drop_zero_get, hck] at hb; cases hb; omega)]; simp)
            clear hfs hxk hnx
            go_wp2_with (first
              | (at_builtin; refine wpList_append_own _ rfl _ _ 36 rfl w.heap.size 21 i0 (.int .i32 0) 1 4 Try.underlying36 hi hz0 hz1 hz2 rfl (by decide) _ _ _ rfl (HO.out.alloc _) ⟨wr.heap.size, 0, none⟩ 1 1 [.int .i32 (65533)] rfl rfl ?c1c ?c2c ?c3c ?c4c ?c5c ?_))
            try (case c1c => exact cells_news _ _ _)
            case c2c => first | rfl | (intro u hu; simp at hu; subst hu; rfl)
            case c3c => unfold maxLen; omega
            case c4c => omega
            case c5c => have := hBw.size; simp; omega
            intro v' w3 hown3 hgrow3 _
            have hB3 : Below w.heap.size w w3 := (hBw.alloc hBw.size _).grown hgrow3 (by have := hBw.size; simp; omega) (ownBlock_lt HO.out)
            have HO3 := Lib.hid hown3
            clear hown3 hgrow3
            go_wp2
            go_roundw
            case rel => exact ⟨k + 1, pre ++ [65533], by go_num, by omega, by simp; omega, HF.out, by simpa using HO3.out, hB3⟩
            case measure => simp [intOf]; omega
          · skip
            have HF := Lib.hid (show fs xs = (pre ++ [65533]) ++ fs (xs.drop (k + 1)) from by rw [hfs, fs_lone ⟨h, by omega⟩ (.inr fun b hb => by rw [drop_zero_get, hck] at hb; cases hb; omega)]; simp)
            clear hfs hxk hnx
            go_wp2_with (first
              | (at_builtin; refine wpList_append_own _ rfl _ _ 36 rfl w.heap.size 21 i0 (.int .i32 0) 1 4 Try.underlying36 hi hz0 hz1 hz2 rfl (by decide) _ _ _ rfl (HO.out.alloc _) ⟨wr.heap.size, 0, none⟩ 1 1 [.int .i32 (65533)] rfl rfl ?c1d ?c2d ?c3d ?c4d ?c5d ?_))
            try (case c1d => exact cells_news _ _ _)
            case c2d => first | rfl | (intro u hu; simp at hu; subst hu; rfl)
            case c3d => unfold maxLen; omega
            case c4d => omega
            case c5d => have := hBw.size; simp; omega
            intro v' w3 hown3 hgrow3 _
            have hB3 : Below w.heap.size w w3 := (hBw.alloc hBw.size _).grown hgrow3 (by have := hBw.size; simp; omega) (ownBlock_lt HO.out)
            have HO3 := Lib.hid hown3
            clear hown3 hgrow3
            go_wp2
            go_roundw
            case rel => exact ⟨k + 1, pre ++ [65533], by go_num, by omega, by simp; omega, HF.out, by simpa using HO3.out, hB3⟩
            case measure => simp [intOf]; omega
          · have hdr2 := drop_get hck
            have HF := Lib.hid (show fs xs = (pre ++ [65536 + (a - 55296) * 1024 + c - 56320]) ++ fs (xs.drop (k + 2)) from by rw [hfs, hdr2, fs_pair _ (by omega)]; simp)
            clear hfs hxk hnx
            go_wp2_with (first
              | (at_builtin; refine wpList_append_own _ rfl _ _ 36 rfl w.heap.size 21 i0 (.int .i32 0) 1 4 Try.underlying36 hi hz0 hz1 hz2 rfl (by decide) _ _ _ rfl (HO.out.alloc _) ⟨wr.heap.size, 0, none⟩ 1 1 [.int .i32 (65536 + (a - 55296) * 1024 + c - 56320)] rfl rfl ?c1e ?c2e ?c3e ?c4e ?c5e ?_))
            try (case c1e => exact cells_news _ _ _)
            case c2e => first | rfl | (intro u hu; simp at hu; subst hu; rfl)
            case c3e => unfold maxLen; omega
            case c4e => omega
            case c5e => have := hBw.size; simp; omega
            intro v' w3 hown3 hgrow3 _
            have hB3 : Below w.heap.size w w3 := (hBw.alloc hBw.size _).grown hgrow3 (by have := hBw.size; simp; omega) (ownBlock_lt HO.out)
            have HO3 := Lib.hid hown3
            clear hown3 hgrow3
            go_wp2
            go_roundw
            case rel => exact ⟨k + 2, pre ++ [65536 + (a - 55296) * 1024 + c - 56320], by go_num, by omega, by simp; omega, HF.out, by simpa using HO3.out, hB3⟩
            case measure => simp [intOf]; omega
        · have g2 : decide ((k : Int) + 1 < (xs.length : Int)) = false := by simp; omega
          have HF := Lib.hid (show fs xs = (pre ++ [65533]) ++ fs (xs.drop (k + 1)) from by rw [hfs, fs_lone ⟨h, by omega⟩ (.inr fun b hb => by rw [drop_zero_get, List.getElem?_eq_none (by omega)] at hb; cases hb)]; simp)
          clear hfs hxk hnx
          go_wp2_with (first
            | (at_builtin; refine wpList_append_own _ rfl _ _ 36 rfl w.heap.size 21 i0 (.int .i32 0) 1 4 Try.underlying36 hi hz0 hz1 hz2 rfl (by decide) _ _ _ rfl (HO.out.alloc _) ⟨wr.heap.size, 0, none⟩ 1 1 [.int .i32 (65533)] rfl rfl ?c1f ?c2f ?c3f ?c4f ?c5f ?_))
          try (case c1f => exact cells_news _ _ _)
          case c2f => first | rfl | (intro u hu; simp at hu; subst hu; rfl)
          case c3f => unfold maxLen; omega
          case c4f => omega
          case c5f => have := hBw.size; simp; omega
          intro v' w3 hown3 hgrow3 _
          have hB3 : Below w.heap.size w w3 := (hBw.alloc hBw.size _).grown hgrow3 (by have := hBw.size; simp; omega) (ownBlock_lt HO.out)
          have HO3 := Lib.hid hown3
          clear hown3 hgrow3
          go_wp2
          go_roundw
          case rel => exact ⟨k + 1, pre ++ [65533], by go_num, by omega, by simp; omega, HF.out, by simpa using HO3.out, hB3⟩
          case measure => simp [intOf]; omega
      · skip
        have HF := Lib.hid (show fs xs = (pre ++ [65533]) ++ fs (xs.drop (k + 1)) from by rw [hfs, fs_lone ⟨by omega, h2⟩ (.inl h)]; simp)
        clear hfs hxk hnx
        go_wp2_with (first
          | (at_builtin; refine wpList_append_own _ rfl _ _ 36 rfl w.heap.size 21 i0 (.int .i32 0) 1 4 Try.underlying36 hi hz0 hz1 hz2 rfl (by decide) _ _ _ rfl (HO.out.alloc _) ⟨wr.heap.size, 0, none⟩ 1 1 [.int .i32 (65533)] rfl rfl ?c1g ?c2g ?c3g ?c4g ?c5g ?_))
        try (case c1g => exact cells_news _ _ _)
        case c2g => first | rfl | (intro u hu; simp at hu; subst hu; rfl)
        case c3g => unfold maxLen; omega
        case c4g => omega
        case c5g => have := hBw.size; simp; omega
        intro v' w3 hown3 hgrow3 _
        have hB3 : Below w.heap.size w w3 := (hBw.alloc hBw.size _).grown hgrow3 (by have := hBw.size; simp; omega) (ownBlock_lt HO.out)
        have HO3 := Lib.hid hown3
        clear hown3 hgrow3
        go_wp2
        go_roundw
        case rel => exact ⟨k + 1, pre ++ [65533], by go_num, by omega, by simp; omega, HF.out, by simpa using HO3.out, hB3⟩
        case measure => simp [intOf]; omega
    · obtain rfl : k = xs.length := by omega
      have hl : fs xs = pre := by rw [hfs]; simp [fs]
      rw [← hl] at hown
      go_wp2
      go_ret
      exact ⟨_, rfl, hown, hBw⟩

end Go.Proofs.Ytpbmgcnalhaajaa
