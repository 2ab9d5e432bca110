/- sievelaw01.UtfSixteen: the walk. -/
import Derived.Test.YtpbmgcnalhaajaaSixt
import Derived.Test.YtpbmgcnalhaajaaUnits
import Derived.Test.YtpbmgcnalhaajaaStep
namespace Go.Proofs.Ytpbmgcnalhaajaa.utfSixteen
open Go.RowKit
set_option linter.unusedVariables false
set_option linter.unusedSimpArgs false

theorem u16s_range (l : List Int) : ∀ a ∈ u16s l, 0 ≤ a ∧ a < 65536 := by
  intro a ha
  simp only [u16s, List.mem_flatMap] at ha
  obtain ⟨r, hr, h⟩ := ha
  cases hg : goodB r
  · rw [u16R_bad hg] at h; simp at h; omega
  · have hb := (goodB_iff r).1 hg
    by_cases h6 : r < 65536
    · rw [u16R_low hg h6] at h; simp at h; omega
    · rw [u16R_high hg h6] at h; simp at h; omega

theorem back_get {l : List Int} {i : Nat} {r : Int} (h : l[i]? = some r) : (fs (u16s l))[i]? = some (fixR r) := by
  rw [fs_u16s]; simp [h]

set_option maxHeartbeats 4000000 in
theorem walk (v : Value) (xs : List Int) (u : Value) (us : List Int) (w : World) (hs : SlI .i32 w.heap.size w v xs) (hx : xs.length ≤ 1048576) (ht : SlI .u16 w.heap.size w u us) (hy : us.length ≤ 1048576) (hu : ∀ a ∈ us, 0 ≤ a ∧ a < 65536) :
    Calls Try.prog 7 #[v, u] w fun e w' => e = .returned (.bool true) ∧ Below w.heap.size w w' := by
  obtain ⟨i0, hi, hz0, hz1, hz2⟩ := info_parts Try.infoI32
  obtain ⟨i1, hj, hy0, hy1, hy2⟩ := info_parts Try.infoU16b
  go_enter Try.func7, Try.ntmps7
  have h0 := (hs.below ((Below.refl w.heap.size w).alloc (Nat.le_refl _) (.cells #[] 21)) (Nat.le_refl _)).sl
  go_wp2_with (at_builtin; refine wpList_append_sl _ rfl _ _ 36 rfl w.heap.size 21 i0 (.int .i32 0) 4 Try.underlying36 hi hz0 hz1 hz2 rfl _ 0 [] rfl (World.ownsRow_made w #[] 0 (Nat.le_refl _) (by simp [maxLen]) (by simp)) w.heap.size _ _ rfl h0 (ints_one _ _) ?h1 ?h2 ?h3 ?_)
  case h1 => simp [maxLen]; omega
  case h2 => simp; omega
  case h3 => simp
  intro gv w1 hown1 hgrow1 _
  have hb1 := below_copy hgrow1
  have hG1 : SlI .i32 w1.heap.size w1 gv xs := slI_of_owns (by simpa using hown1) (Nat.le_refl _)
  have hs1 := hs.step hb1
  have ht1 := ht.step hb1
  clear h0 hown1 hgrow1 hs ht
  have h0 := (ht1.below ((Below.refl w1.heap.size w1).alloc (Nat.le_refl _) (.cells #[] 81)) (Nat.le_refl _)).sl
  go_wp2_with (at_builtin; refine wpList_append_sl _ rfl _ _ 44 rfl w1.heap.size 81 i1 (.int .u16 0) 2 Try.underlying44 hj hy0 hy1 hy2 rfl _ 0 [] rfl (World.ownsRow_made w1 #[] 0 (Nat.le_refl _) (by simp [maxLen]) (by simp)) w1.heap.size _ _ rfl h0 (ints_one _ _) ?h4 ?h5 ?h6 ?_)
  case h4 => simp [maxLen]; omega
  case h5 => simp; omega
  case h6 => simp
  intro av w2 hown2 hgrow2 _
  have hb2 := below_copy hgrow2
  have hB2 := bnext hb1 hb2
  have hA2 : SlI .u16 w2.heap.size w2 av us := slI_of_owns (by simpa using hown2) (Nat.le_refl _)
  have hG2 := hG1.step hb2
  have hs2 := hs1.step hb2
  have ht2 := ht1.step hb2
  clear h0 hown2 hgrow2 hs1 ht1 hG1 hb2 hb1
  go_wp2_with fail
  refine (utfsixteen_any _ _ xs _ hG2 (Nat.le_refl _) (by omega)).mono ?_
  rintro e w3 ⟨xv, rfl, hown3, hb3⟩
  have hB3 := bnext hB2 hb3
  have hX3 : SlI .u16 w3.heap.size w3 xv (u16s xs) := slI_of_owns hown3 (Nat.le_refl _)
  have hA3 := hA2.step hb3
  have hG3 := hG2.step hb3
  have hs3 := hs2.step hb3
  have ht3 := ht2.step hb3
  clear hown3 hs2 ht2 hG2 hA2 hb3 hB2
  go_wp2_with fail
  refine (utffrom_any _ _ us _ hA3 (Nat.le_refl _) (by omega) hu).mono ?_
  rintro e w4 ⟨yv, rfl, hown4, hb4⟩
  have hB4 := bnext hB3 hb4
  have hY4 : SlI .i32 w4.heap.size w4 yv (fs us) := slI_of_owns hown4 (Nat.le_refl _)
  have hX4 := hX3.step hb4
  have hA4 := hA3.step hb4
  have hG4 := hG3.step hb4
  have hs4 := hs3.step hb4
  have ht4 := ht3.step hb4
  clear hown4 hs3 ht3 hG3 hA3 hX3 hb4 hB3
  go_wp2_with fail
  refine (refsixteen_any _ _ xs _ hs4 (Nat.le_refl _) (by omega)).mono ?_
  rintro e w5 ⟨zv, rfl, hown5, hb5⟩
  have hB5 := bnext hB4 hb5
  have hZ5 : SlI .u16 w5.heap.size w5 zv (u16s xs) := slI_of_owns hown5 (Nat.le_refl _)
  have hY5 := hY4.step hb5
  have hX5 := hX4.step hb5
  have hA5 := hA4.step hb5
  have hG5 := hG4.step hb5
  have hs5 := hs4.step hb5
  have ht5 := ht4.step hb5
  clear hown5 hs4 ht4 hG4 hA4 hX4 hY4 hb5 hB4
  have hul := u16s_length xs
  have hfl := fs_length us
  go_wp2_with fail
  refine (units_yes _ _ _ (u16s xs) _ hX5 hZ5 (by omega)).mono ?_
  rintro e w6 ⟨rfl, hd6⟩
  have hb6 := hd6.step
  have hB6 := bnext hB5 hb6
  have hY6 := hY5.step hb6
  have hX6 := hX5.step hb6
  have hA6 := hA5.step hb6
  have hG6 := hG5.step hb6
  have hs6 := hs5.step hb6
  have ht6 := ht5.step hb6
  clear hs5 ht5 hG5 hA5 hX5 hY5 hZ5 hb6 hB5 hd6
  go_wp2_with fail
  refine (reffrom_any _ _ us _ ht6 (Nat.le_refl _) (by omega) hu).mono ?_
  rintro e w7 ⟨qv, rfl, hown7, hb7⟩
  have hB7 := bnext hB6 hb7
  have hQ7 : SlI .i32 w7.heap.size w7 qv (fs us) := slI_of_owns hown7 (Nat.le_refl _)
  have hY7 := hY6.step hb7
  have hX7 := hX6.step hb7
  have hA7 := hA6.step hb7
  have hG7 := hG6.step hb7
  have hs7 := hs6.step hb7
  have ht7 := ht6.step hb7
  clear hown7 hs6 ht6 hG6 hA6 hX6 hY6 hb7 hB6
  go_wp2_with fail
  refine (same_yes _ _ _ (fs us) _ hY7 hQ7 (by omega)).mono ?_
  rintro e w8 ⟨rfl, hd8⟩
  have hb8 := hd8.step
  have hB8 := bnext hB7 hb8
  have hX8 := hX7.step hb8
  have hA8 := hA7.step hb8
  have hG8 := hG7.step hb8
  have hs8 := hs7.step hb8
  have ht8 := ht7.step hb8
  clear hs7 ht7 hG7 hA7 hX7 hY7 hQ7 hb8 hB7 hd8
  go_wp2_with fail
  refine (same_yes _ _ _ xs _ hG8 hs8 (by omega)).mono ?_
  rintro e w9 ⟨rfl, hd9⟩
  have hb9 := hd9.step
  have hB9 := bnext hB8 hb9
  have hX9 := hX8.step hb9
  have hA9 := hA8.step hb9
  have hs9 := hs8.step hb9
  have ht9 := ht8.step hb9
  clear hs8 ht8 hG8 hA8 hX8 hb9 hB8 hd9
  go_wp2_with fail
  refine (units_yes _ _ _ us _ hA9 ht9 (by omega)).mono ?_
  rintro e wA ⟨rfl, hdA⟩
  have hbA := hdA.step
  have hBA := bnext hB9 hbA
  have hXA := hX9.step hbA
  have hsA := hs9.step hbA
  clear hs9 ht9 hA9 hX9 hbA hB9 hdA
  go_wp2_with fail
  refine (utffrom_any _ _ (u16s xs) _ hXA (Nat.le_refl _) (by omega) (u16s_range xs)).mono ?_
  rintro e wB ⟨bv, rfl, hownB, hbB⟩
  have hBB := bnext hBA hbB
  have hKB : SlI .i32 wB.heap.size wB bv (fs (u16s xs)) := slI_of_owns hownB (Nat.le_refl _)
  have hsB := hsA.step hbB
  clear hsA hXA hownB hbB hBA
  have hlb : (fs (u16s xs)).length = xs.length := by rw [fs_u16s]; simp
  obtain ⟨ao, cap, rfl, hc, hn, hr⟩ := hsB
  obtain ⟨bo, cbp, rfl, hcb, hnb, hrb⟩ := hKB
  rw [hlb] at *
  go_wp2
  go_loop [55] (fun i => ∃ k : Nat, i = .int .i64 k ∧ k ≤ xs.length) (fun i => xs.length - (intOf i).toNat)
  case atStart => exact ⟨0, rfl, Nat.zero_le _⟩
  case round =>
    obtain ⟨k, rfl, hk⟩ := hrel
    by_cases hkn : k < xs.length
    · obtain ⟨b1, o1, rfl, hb1, r1⟩ := hr (by omega)
      obtain ⟨b2, o2, rfl, hb2, r2⟩ := hrb (by omega)
      obtain ⟨x, hxk⟩ := get_of_lt xs hkn
      have c1 := r1 k x hxk
      have c2 := r2 k (fixR x) (back_get hxk)
      clear hxk
      cases hg : goodB x
      · rw [show fixR x = 65533 from by unfold fixR; rw [if_neg (by simp [hg])]] at c2
        have HG := Lib.hid hg
        clear hg
        go_wp2_with (go_at_call 32; refine (refchar_is x false _ HG).mono ?_; rintro e w' ⟨rfl, rfl⟩)
        go_round
        case rel => exact ⟨k + 1, by go_num, by omega⟩
        case measure => simp [intOf]; omega
      · rw [show fixR x = x from by unfold fixR; rw [if_pos hg]] at c2
        have HG := Lib.hid hg
        clear hg
        go_wp2_with (go_at_call 32; refine (refchar_is x true _ HG).mono ?_; rintro e w' ⟨rfl, rfl⟩)
        go_round
        case rel => exact ⟨k + 1, by go_num, by omega⟩
        case measure => simp [intOf]; omega
    · obtain rfl : k = xs.length := by omega
      go_wp2_with (go_at_call 12; refine (lives_yes _).mono ?_; rintro e w7 ⟨rfl, hb7⟩)
      go_ret
      exact ⟨rfl, hBB.trans (hb7.mono hBB.size)⟩

end Go.Proofs.Ytpbmgcnalhaajaa.utfSixteen
