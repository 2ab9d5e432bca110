/- utf.Bytes; sieveref01.bytesOf, Bytes, Text: the bytes of runes, in new memory. -/
import Derived.Test.YtbdkiiaiadbmbaaUtfC
import Derived.Test.YtbdkiiaiadbmbaaEnc
import Derived.Test.YtbdkiiaiadbmbaaMisc
namespace Go.Proofs.Ytbdkiiaiadbmbaa
open Go.RowKit
set_option linter.unusedVariables false
set_option linter.unusedSimpArgs false

theorem Try.infoU8b : (Try.prog.info? 5).map (fun i => (i.zero, i.size, i.bytes)) = some (some (.int .u8 0), 1, 1) := by kernel_rfl

theorem i32_or5 (x y : Int) (hx0 : 0 ≤ x) (hx : x % 32 = 0) (hx1 : x < 2147483648) (h0 : 0 ≤ y) (h1 : y < 32) : bits .or .i32 x y = x + y := bits_join .i32 31 (by decide) wraps_i32 5 x y hx0 hx hx1 h0 h1 (by omega)
theorem i32_or4 (x y : Int) (hx0 : 0 ≤ x) (hx : x % 16 = 0) (hx1 : x < 2147483648) (h0 : 0 ≤ y) (h1 : y < 16) : bits .or .i32 x y = x + y := bits_join .i32 31 (by decide) wraps_i32 4 x y hx0 hx hx1 h0 h1 (by omega)
theorem i32_or7 (x y : Int) (hx0 : 0 ≤ x) (hx : x % 128 = 0) (hx1 : x < 2147483648) (h0 : 0 ≤ y) (h1 : y < 128) : bits .or .i32 x y = x + y := bits_join .i32 31 (by decide) wraps_i32 7 x y hx0 hx hx1 h0 h1 (by omega)

theorem owns_lit (w : World) (k : IntKind) (xs : List Int) (e : TypeId) (hm : xs.length ≤ maxLen) : (w.alloc (.cells (xs.map (Value.int k)).toArray e)).ownsRow w.heap.size e 1 (.slice (some ⟨w.heap.size, 0, none⟩) xs.length xs.length) xs.length (xs.map (Value.int k)) := by
  have := World.ownsRow_lit (w := w) (base := w.heap.size) (e := e) (size := 1) (xs.map (Value.int k)).toArray xs.length (Nat.le_refl _) hm (by simp)
  simpa using this

theorem refchar_is (r : Int) (g : Bool) (w : World) (hg : Hid (goodB r = g)) : Calls Try.prog 33 #[.int .i32 r] w fun e w' => e = .returned (.bool g) ∧ w = w' := by
  have := char_any r w; rw [hg.out] at this; exact this
theorem refwidth_is (r : Int) (n : Int) (w : World) (hg : Hid (widthOf r = n)) : Calls Try.prog 54 #[.int .i32 r] w fun e w' => e = .returned (.int .i64 n) ∧ w = w' := by
  have := widthR_any r w; rw [hg.out] at this; exact this
set_option maxHeartbeats 400000 in
theorem bytesOf_1 (c : Int) (w : World) (h0 : 0 ≤ c) (hc : c < 128) (hg : Hid (goodB c = true)) (hw : Hid (widthOf c = 1)) :
    Calls Try.prog 52 #[.int .i32 c] w fun e w' => e = .returned (.slice (some ⟨w.heap.size, 0, none⟩) 1 1) ∧ w' = w.alloc (.cells #[.int .u8 (c)] 5) := by
  have hc2 := hc
  go_enter Try.func52, Try.ntmps52
  go_wp2_with (first | (go_at_call 33; refine (refchar_is c true _ hg).mono ?_; rintro e w' ⟨rfl, rfl⟩) | (go_at_call 54; refine (refwidth_is c 1 _ hw).mono ?_; rintro e w' ⟨rfl, rfl⟩))
  go_ret
  exact ⟨rfl, rfl⟩

set_option maxHeartbeats 400000 in
theorem bytesOf_2 (c : Int) (w : World) (h0 : 0 ≤ c) (hc : 128 ≤ c ∧ c < 2048) (hg : Hid (goodB c = true)) (hw : Hid (widthOf c = 2)) :
    Calls Try.prog 52 #[.int .i32 c] w fun e w' => e = .returned (.slice (some ⟨w.heap.size, 0, none⟩) 2 2) ∧ w' = w.alloc (.cells #[.int .u8 (192 + c / 64), .int .u8 (128 + c % 64)] 5) := by
  obtain ⟨hc1, hc2⟩ := hc
  go_enter Try.func52, Try.ntmps52
  go_wp2_with (first | (go_at_call 33; refine (refchar_is c true _ hg).mono ?_; rintro e w' ⟨rfl, rfl⟩) | (go_at_call 54; refine (refwidth_is c 2 _ hw).mono ?_; rintro e w' ⟨rfl, rfl⟩))
  go_ret
  exact ⟨rfl, rfl⟩

set_option maxHeartbeats 400000 in
theorem bytesOf_3 (c : Int) (w : World) (h0 : 0 ≤ c) (hc : 2048 ≤ c ∧ c < 65536) (hg : Hid (goodB c = true)) (hw : Hid (widthOf c = 3)) :
    Calls Try.prog 52 #[.int .i32 c] w fun e w' => e = .returned (.slice (some ⟨w.heap.size, 0, none⟩) 3 3) ∧ w' = w.alloc (.cells #[.int .u8 (224 + c / 4096), .int .u8 (128 + c / 64 % 64), .int .u8 (128 + c % 64)] 5) := by
  obtain ⟨hc1, hc2⟩ := hc
  go_enter Try.func52, Try.ntmps52
  go_wp2_with (first | (go_at_call 33; refine (refchar_is c true _ hg).mono ?_; rintro e w' ⟨rfl, rfl⟩) | (go_at_call 54; refine (refwidth_is c 3 _ hw).mono ?_; rintro e w' ⟨rfl, rfl⟩))
  go_ret
  exact ⟨rfl, rfl⟩

set_option maxHeartbeats 400000 in
theorem bytesOf_4 (c : Int) (w : World) (h0 : 0 ≤ c) (hc : 65536 ≤ c ∧ c ≤ 1114111) (hg : Hid (goodB c = true)) (hw : Hid (widthOf c = 4)) :
    Calls Try.prog 52 #[.int .i32 c] w fun e w' => e = .returned (.slice (some ⟨w.heap.size, 0, none⟩) 4 4) ∧ w' = w.alloc (.cells #[.int .u8 (240 + c / 262144), .int .u8 (128 + c / 4096 % 64), .int .u8 (128 + c / 64 % 64), .int .u8 (128 + c % 64)] 5) := by
  obtain ⟨hc1, hc2⟩ := hc
  go_enter Try.func52, Try.ntmps52
  go_wp2_with (first | (go_at_call 33; refine (refchar_is c true _ hg).mono ?_; rintro e w' ⟨rfl, rfl⟩) | (go_at_call 54; refine (refwidth_is c 4 _ hw).mono ?_; rintro e w' ⟨rfl, rfl⟩))
  go_ret
  exact ⟨rfl, rfl⟩

set_option maxHeartbeats 400000 in
theorem bytesOf_0 (c : Int) (w : World) (hg : Hid (goodB c = false)) (hw : Hid (widthOf 65533 = 3)) :
    Calls Try.prog 52 #[.int .i32 c] w fun e w' => e = .returned (.slice (some ⟨w.heap.size, 0, none⟩) 3 3) ∧ w' = w.alloc (.cells #[.int .u8 239, .int .u8 191, .int .u8 189] 5) := by
  go_enter Try.func52, Try.ntmps52
  go_wp2_with (first | (go_at_call 33; refine (refchar_is c false _ hg).mono ?_; rintro e w' ⟨rfl, rfl⟩) | (go_at_call 54; refine (refwidth_is 65533 3 _ hw).mono ?_; rintro e w' ⟨rfl, rfl⟩))
  go_ret
  exact ⟨rfl, rfl⟩

theorem width_0 : widthOf 65533 = 3 := by decide +kernel
theorem enc_0 {r : Int} (hg : goodB r = false) : encR r = [239, 191, 189] := by
  have : fixR r = 65533 := by unfold fixR; rw [if_neg (by simp [hg])]
  rw [encR, this]; decide +kernel
theorem width_cases {c : Int} (hg : goodB c = true) : 0 ≤ c ∧ encR c = encC c ∧ ((c < 128 ∧ widthOf c = 1) ∨ ((128 ≤ c ∧ c < 2048) ∧ widthOf c = 2) ∨ ((2048 ≤ c ∧ c < 65536) ∧ widthOf c = 3) ∨ ((65536 ≤ c ∧ c ≤ 1114111) ∧ widthOf c = 4)) := by
  have h := (goodB_iff c).1 hg
  have hf : fixR c = c := by unfold fixR; rw [if_pos hg]
  refine ⟨h.1, by rw [encR, hf], ?_⟩
  have hw : ¬ (goodB c = false) := by rw [hg]; simp
  rcases (show c < 128 ∨ (128 ≤ c ∧ c < 2048) ∨ (2048 ≤ c ∧ c < 65536) ∨ 65536 ≤ c from by omega) with h1 | h1 | h1 | h1
  · exact .inl ⟨h1, by simp [widthOf, hg, h1]⟩
  · exact .inr (.inl ⟨h1, by simp [widthOf, hg, show ¬ c < 128 from by omega, h1.2]⟩)
  · exact .inr (.inr (.inl ⟨h1, by simp [widthOf, hg, show ¬ c < 128 from by omega, show ¬ c < 2048 from by omega, h1.2]⟩))
  · exact .inr (.inr (.inr ⟨⟨h1, h.2.1⟩, by simp [widthOf, hg, show ¬ c < 128 from by omega, show ¬ c < 2048 from by omega, show ¬ c < 65536 from by omega]⟩))

theorem bytesOf_any (c : Int) (w : World) : Calls Try.prog 52 #[.int .i32 c] w fun e w' => ∃ u, e = .returned u ∧ w'.ownsRow w.heap.size 5 1 u (encR c).length ((encR c).map (Value.int .u8)) ∧ Below w.heap.size w w' := by
  have fin : ∀ (xs : List Int) (e : Ending) (w' : World), encR c = xs → xs.length ≤ 4 → (e = .returned (.slice (some ⟨w.heap.size, 0, none⟩) xs.length xs.length) ∧ w' = w.alloc (.cells (xs.map (Value.int .u8)).toArray 5)) →
      ∃ u, e = .returned u ∧ w'.ownsRow w.heap.size 5 1 u (encR c).length ((encR c).map (Value.int .u8)) ∧ Below w.heap.size w w' := by
    rintro xs e w' h hl ⟨rfl, rfl⟩
    rw [h]
    exact ⟨_, rfl, owns_lit w .u8 xs _ (by unfold maxLen; omega), (Below.refl _ _).alloc (Nat.le_refl _) _⟩
  cases hg : goodB c
  · exact (bytesOf_0 c w hg width_0).mono fun e w' h => fin [239, 191, 189] e w' (enc_0 hg) (by simp) (by simpa using h)
  · obtain ⟨h0, he, h | h | h | h⟩ := width_cases hg
    · exact (bytesOf_1 c w h0 h.1 hg h.2).mono fun e w' h' => fin [c] e w' (by rw [he]; unfold encC; rw [if_pos h.1]) (by simp) (by simpa using h')
    · exact (bytesOf_2 c w h0 h.1 hg h.2).mono fun e w' h' => fin [192 + c / 64, 128 + c % 64] e w' (by rw [he]; unfold encC; rw [if_neg (show ¬ c < 128 from by omega), if_pos h.1.2]) (by simp) (by simpa using h')
    · exact (bytesOf_3 c w h0 h.1 hg h.2).mono fun e w' h' => fin [224 + c / 4096, 128 + c / 64 % 64, 128 + c % 64] e w' (by rw [he]; unfold encC; rw [if_neg (show ¬ c < 128 from by omega), if_neg (show ¬ c < 2048 from by omega), if_pos h.1.2]) (by simp) (by simpa using h')
    · exact (bytesOf_4 c w h0 h.1 hg h.2).mono fun e w' h' => fin [240 + c / 262144, 128 + c / 4096 % 64, 128 + c / 64 % 64, 128 + c % 64] e w' (by rw [he]; unfold encC; rw [if_neg (show ¬ c < 128 from by omega), if_neg (show ¬ c < 2048 from by omega), if_neg (show ¬ c < 65536 from by omega)]) (by simp) (by simpa using h')

set_option maxHeartbeats 1000000 in
theorem refbytes_any (B : Nat) (v : Value) (xs : List Int) (w : World) (hs : SlI .i32 B w v xs) (hB : B ≤ w.heap.size) (hx : xs.length ≤ 274877906944) :
    Calls Try.prog 46 #[v] w fun e w' => ∃ u, e = .returned u ∧ w'.ownsRow w.heap.size 5 1 u (encs xs).length ((encs xs).map (Value.int .u8)) ∧ Below w.heap.size w w' := by
  obtain ⟨i0, hi, hz0, hz1, hz2⟩ := info_parts Try.infoU8b
  obtain ⟨ao, cap, rfl, hc, hn, hr⟩ := hs
  go_enter Try.func46, Try.ntmps46
  go_wp2
  go_loopw [3, 8] (fun u i wr => ∃ k : Nat, i = .int .i64 k ∧ k ≤ xs.length ∧ wr.ownsRow w.heap.size 5 1 u (encs (xs.take k)).length ((encs (xs.take k)).map (Value.int .u8)) ∧ Below w.heap.size w wr) (fun _ i _ => xs.length - (intOf i).toNat)
  case atStart => exact ⟨0, rfl, Nat.zero_le _, World.ownsRow_nil _ _ _ _, Below.refl _ _⟩
  case round =>
    obtain ⟨k, rfl, hk, hown, hBw⟩ := hrel
    by_cases hkn : k < xs.length
    · obtain ⟨b, off, rfl, hlt, hrun⟩ := hr (by omega)
      obtain ⟨x, hxk⟩ := get_of_lt xs hkn
      have hcx : wr.cell? ⟨b, off + k, none⟩ = some (.int .i32 x) := (hBw.cell (p := ⟨b, off + k, none⟩) (by show b < w.heap.size; omega)).trans (hrun k x hxk)
      have htk := take_succ_get hxk
      have hel := encs_length (xs.take k)
      have hel2 : (xs.take k).length ≤ k := List.length_take_le _ _
      have hel3 := (encC_length (fixR x)).2
      have hel4 : (encs (xs.take k)).length + (encR x).length ≤ 2199023255552 := by simp only [encR]; omega
      have HO := Lib.hid hown
      have HT := Lib.hid htk
      clear hxk hown htk hel hel2 hel3
      go_wp2_with (first
        | (go_at_call 52; refine (bytesOf_any x _).mono ?_; rintro e w2 ⟨u2, rfl, hown2, hb2⟩; have HO2 := Lib.hid (ownsRow_below HO.out hb2 (Nat.le_refl _)); have HS2 := Lib.hid (sl_of_owns hown2 (Nat.le_refl _)); have HBk := Lib.hid (hBw.trans (hb2.mono hBw.size)); clear hown2 hb2)
        | (at_builtin; refine wpList_append_sl _ rfl _ _ 25 rfl w.heap.size 5 i0 (.int .u8 0) 1 Try.underlying25 hi hz0 hz1 hz2 rfl _ _ _ rfl HO2.out w2.heap.size _ _ rfl HS2.out (ints_one _ _) ?c1 ?c2 HBk.out.size ?_))
      case c1 => simp [maxLen]; omega
      case c2 => simp; omega
      intro v' w3 hown3 hgrow3 _
      have hB3 : Below w.heap.size w w3 := HBk.out.grown hgrow3 HBk.out.size (ownBlock_lt HO2.out)
      have HO3 := Lib.hid hown3
      clear hown3 hgrow3
      go_wp2
      go_roundw
      case rel => exact ⟨k + 1, by go_num, by omega, by rw [HT.out, encs_snoc]; simpa using HO3.out, hB3⟩
      case measure => simp [intOf]; omega
    · obtain rfl : k = xs.length := by omega
      rw [List.take_length] at hown
      go_wp2
      go_ret
      exact ⟨_, rfl, hown, hBw⟩

end Go.Proofs.Ytbdkiiaiadbmbaa
