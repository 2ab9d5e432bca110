/- utf.bounds, utf.read: what they compute. -/
import Derived.Test.YtbdkiiaiadbmbaaProg
import Derived.Test.YtbdkiiaiadbmbaaBase
import Derived.Test.YtbdkiiaiadbmbaaDec
namespace Go.Proofs.Ytbdkiiaiadbmbaa
open Go.RowKit
set_option linter.unusedVariables false
set_option linter.unusedSimpArgs false

theorem ret_bnd {a b c a' b' c' : Int} (h1 : a = a') (h2 : b = b') (h3 : c = c') : Ending.returned (.tuple #[.int .i64 a, .int .u8 b, .int .u8 c]) = .returned (.tuple #[.int .i64 a', .int .u8 b', .int .u8 c']) := by
  subst h1 h2 h3; rfl

set_option maxHeartbeats 400000 in
theorem bounds_any (c : Int) (w : World) (h0 : 0 ≤ c) (h1 : c ≤ 255) :
    Calls Try.prog 53 #[.int .u8 c] w fun e w' => e = .returned (.tuple #[.int .i64 (bndM c), .int .u8 (bndL c), .int .u8 (bndH c)]) ∧ w = w' := by
  go_enter Try.func53, Try.ntmps53
  go_wp2
  all_goals go_ret3
  all_goals (refine ⟨ret_bnd ?_ ?_ ?_, rfl⟩)
  all_goals (try simp only [beq_iff_eq, beq_eq_false_iff_ne, ne_eq] at *)
  all_goals (first | (unfold bndM; (repeat' split) <;> omega) | (unfold bndL; (repeat' split) <;> omega) | (unfold bndH; (repeat' split) <;> omega))

theorem bounds_is (c : Int) (m l h : Int) (w : World) (h0 : 0 ≤ c) (h1 : c ≤ 255) (hm : bndM c = m) (hl : bndL c = l) (hh : bndH c = h) :
    Calls Try.prog 53 #[.int .u8 c] w fun e w' => e = .returned (.tuple #[.int .i64 m, .int .u8 l, .int .u8 h]) ∧ w = w' := by
  subst hm hl hh; exact bounds_any c w h0 h1

theorem ret_rd {T : Int × Nat × Int} {a c : Int} {k : Nat} (E : T = (a, k, c)) : Ending.returned (.tuple #[.int .i32 a, .int .i64 k, .int .i64 c]) = .returned (.tuple #[.int .i32 T.1, .int .i64 T.2.1, .int .i64 T.2.2]) := by
  subst E; rfl

/-- The loop's relation: what is still to come is what the whole reads. -/
def RdRel (xs : List Int) (m : Nat) (T : Int × Nat × Int) (w : World) (lo hi r i : Value) (wr : World) : Prop :=
  ∃ (k : Nat) (l h x : Int), lo = .int .u8 l ∧ hi = .int .u8 h ∧ r = .int .i32 x ∧ i = .int .i64 k ∧ 1 ≤ k ∧ k ≤ m + 1 ∧ k ≤ xs.length ∧ 0 ≤ l ∧ l ≤ 255 ∧ 0 ≤ h ∧ h ≤ 255 ∧ 0 ≤ x ∧ x * 64 ^ (m + 1 - k) < 2097152 ∧
    rdGo xs m (m + 1 - k) k x l h = T ∧ Drew w wr

set_option maxHeartbeats 400000 in
theorem read_go (b off cap : Nat) (c m l h : Int) (xs : List Int) (w : World) (hr : Run .u8 w b off xs) (hb : Byt xs) (hx : xs.length ≤ 9223372036854775807) (hc : xs[0]? = some c)
    (hm : Hid (bndM c = m)) (hl : Hid (bndL c = l)) (hh : Hid (bndH c = h)) (hm3 : m = 1 ∨ m = 2 ∨ m = 3) (l0 : 0 ≤ l) (l1 : l ≤ 255) (g0 : 0 ≤ h) (g1 : h ≤ 255) :
    Calls Try.prog 50 #[.slice (some ⟨b, off, none⟩) xs.length cap] w fun e w' => e = .returned (.tuple #[.int .i32 (rd xs).1, .int .i64 (rd xs).2.1, .int .i64 (rd xs).2.2]) ∧ Drew w w' := by
  have hc0 := hr 0 c hc
  simp only [Nat.add_zero] at hc0
  have hc1 := hb 0 c hc
  have hn : 0 < xs.length := by rcases Nat.lt_or_ge 0 xs.length with h | h; exact h; simp [List.getElem?_eq_none h] at hc
  obtain ⟨cl, cu⟩ := hc1
  have HC := Lib.hid hc
  clear hc
  rcases hm3 with rfl | rfl | rfl
  all_goals
    go_enter Try.func50, Try.ntmps50
    go_wp2_with (go_at_call 53; refine (bounds_is c _ l h _ cl cu hm.out hl.out hh.out).mono ?_; rintro e w' ⟨rfl, rfl⟩)
    go_quiet (fail)
    go_wp2
    go_loopw [6, 7, 8, 9] (RdRel xs (bndM c).toNat (rd xs) w) (fun _ _ _ i _ => 5 - (intOf i).toNat)
    case atStart =>
      refine ⟨1, l, h, _, rfl, rfl, rfl, rfl, ?_, ?_, ?_, ?_, ?_, ?_, ?_, ?_, ?_, ?_, ?_⟩
      all_goals (try rw [hm.out])
      all_goals (try simp only [Int.toNat_one, Int.reduceToNat])
      all_goals (try rw [i32_and31 c (by omega) (by omega)])
      all_goals (try rw [i32_and15 c (by omega) (by omega)])
      all_goals (try rw [i32_and7 c (by omega) (by omega)])
      all_goals (try omega)
      · have hM := hm.out
        have c8 : ¬ c < 128 := by intro hc; simp [bndM, hc] at hM
        simp [rd, HC.out, c8, hM, hl.out, hh.out]
      · exact Drew.drewN (Drew.refl w) _
    case round =>
      obtain ⟨k, l, h, x, rfl, rfl, rfl, rfl, hk1, hk2, hk3, l0, l1, h0, h1, x0, hx2, HT, hd⟩ := hrel
      rw [hm.out] at hx2 HT hk2
      simp only [Int.toNat_one, Int.reduceToNat] at hx2 HT hk2
      have HT' := Lib.hid HT
      have HX := Lib.hid hx2
      clear HT
      obtain ⟨q, rfl⟩ := hd
      by_cases hkm : k ≤ (bndM c).toNat
      · rw [hm.out] at hkm
        simp only [Int.toNat_one, Int.reduceToNat] at hkm
        have hx3 : x ≤ 32767 := by
          rcases (show k = 1 ∨ k = 2 ∨ k = 3 from by omega) with rfl | rfl | rfl <;> omega
        clear hx2
        by_cases hkn : k < xs.length
        · obtain ⟨y, hy⟩ := get_of_lt xs hkn
          have hcy := hr k y hy
          obtain ⟨y0, y1⟩ := hb k y hy
          have HY := Lib.hid hy
          clear hy
          have hne : ((k : Int) == (xs.length : Int)) = false := beq_eq_false_iff_ne.2 (by omega)
          by_cases hylo : y < l
          · go_wp2
            go_ret3
            have E : rd xs = (65533, k, 1) := by
              rw [← HT'.out]
              rcases (show k = 1 ∨ k = 2 ∨ k = 3 from by omega) with rfl | rfl | rfl <;> first | exact rdGo_bad HY.out (.inl hylo) _ _ _ | omega
            exact ⟨ret_rd E, q, rfl⟩
          · by_cases hyhi : h < y
            · go_wp2
              go_ret3
              have E : rd xs = (65533, k, 1) := by
                rw [← HT'.out]
                rcases (show k = 1 ∨ k = 2 ∨ k = 3 from by omega) with rfl | rfl | rfl <;> first | exact rdGo_bad HY.out (.inr hyhi) _ _ _ | omega
              exact ⟨ret_rd E, q, rfl⟩
            · go_wp2
              go_roundw
              case rel =>
                refine ⟨k + 1, 128, 191, x * 64 + y % 64, rfl, rfl, rfl, by go_num, by omega, ?_, by omega, by omega, by omega, by omega, by omega, by omega, ?_, ?_, q, rfl⟩
                all_goals (try rw [hm.out])
                all_goals (try simp only [Int.toNat_one, Int.reduceToNat])
                · omega
                · have hx4 := HX.out
                  rcases (show k = 1 ∨ k = 2 ∨ k = 3 from by omega) with rfl | rfl | rfl <;> omega
                · rw [← HT'.out]
                  rcases (show k = 1 ∨ k = 2 ∨ k = 3 from by omega) with rfl | rfl | rfl <;> first | exact (rdGo_step HY.out (by omega) (by omega) _ _ _).symm | omega
              case measure => simp [intOf]; omega
        · obtain rfl : k = xs.length := by omega
          go_wp2
          go_ret3
          have E : rd xs = (65533, xs.length, 2) := by
            rw [← HT'.out]
            have hnone : xs[xs.length]? = none := by simp
            rcases (show xs.length = 1 ∨ xs.length = 2 ∨ xs.length = 3 from by omega) with e | e | e <;> rw [e] at hnone ⊢ <;> first | exact rdGo_none hnone _ _ _ _ _ | omega
          exact ⟨ret_rd E, q, rfl⟩
      · rw [hm.out] at hkm
        simp only [Int.toNat_one, Int.reduceToNat] at hkm
        go_wp2
        go_ret3
        have E : rd xs = (x, k, 0) := by
          rw [← HT'.out]
          rcases (show k = 2 ∨ k = 3 ∨ k = 4 from by omega) with rfl | rfl | rfl <;> first | rfl | omega
        refine ⟨Eq.trans ?_ (ret_rd E), q, rfl⟩
        rcases (show k = 2 ∨ k = 3 ∨ k = 4 from by omega) with rfl | rfl | rfl <;> first | rfl | omega

set_option maxHeartbeats 400000 in
theorem read_asc (b off cap : Nat) (c l h : Int) (xs : List Int) (w : World) (hc0 : w.cell? ⟨b, off, none⟩ = some (.int .u8 c)) (cl : 0 ≤ c) (cu : c ≤ 255) (hx : xs.length ≤ 9223372036854775807) (hn : 0 < xs.length)
    (hm : Hid (bndM c = 0)) (hl : Hid (bndL c = l)) (hh : Hid (bndH c = h)) (hE : Hid (rd xs = (c, 1, 0))) :
    Calls Try.prog 50 #[.slice (some ⟨b, off, none⟩) xs.length cap] w fun e w' => e = .returned (.tuple #[.int .i32 (rd xs).1, .int .i64 (rd xs).2.1, .int .i64 (rd xs).2.2]) ∧ Drew w w' := by
  go_enter Try.func50, Try.ntmps50
  go_wp2_with (go_at_call 53; refine (bounds_is c _ l h _ cl cu hm.out hl.out hh.out).mono ?_; rintro e w' ⟨rfl, rfl⟩)
  go_ret3
  exact ⟨ret_rd hE.out, Drew.refl _⟩
set_option maxHeartbeats 400000 in
theorem read_bad (b off cap : Nat) (c l h : Int) (xs : List Int) (w : World) (hc0 : w.cell? ⟨b, off, none⟩ = some (.int .u8 c)) (cl : 0 ≤ c) (cu : c ≤ 255) (hx : xs.length ≤ 9223372036854775807) (hn : 0 < xs.length)
    (hm : Hid (bndM c = -1)) (hl : Hid (bndL c = l)) (hh : Hid (bndH c = h)) (hE : Hid (rd xs = (65533, 1, 1))) :
    Calls Try.prog 50 #[.slice (some ⟨b, off, none⟩) xs.length cap] w fun e w' => e = .returned (.tuple #[.int .i32 (rd xs).1, .int .i64 (rd xs).2.1, .int .i64 (rd xs).2.2]) ∧ Drew w w' := by
  go_enter Try.func50, Try.ntmps50
  go_wp2_with (go_at_call 53; refine (bounds_is c _ l h _ cl cu hm.out hl.out hh.out).mono ?_; rintro e w' ⟨rfl, rfl⟩)
  go_ret3
  exact ⟨ret_rd hE.out, Drew.refl _⟩

/-- utf.read, of bytes that are not none. -/
theorem read_any (b off cap : Nat) (xs : List Int) (w : World) (hr : Run .u8 w b off xs) (hb : Byt xs) (hx : xs.length ≤ 9223372036854775807) (hn : 0 < xs.length) :
    Calls Try.prog 50 #[.slice (some ⟨b, off, none⟩) xs.length cap] w fun e w' => e = .returned (.tuple #[.int .i32 (rd xs).1, .int .i64 (rd xs).2.1, .int .i64 (rd xs).2.2]) ∧ Drew w w' := by
  obtain ⟨c, hc⟩ := get_of_lt xs hn
  obtain ⟨cl, cu⟩ := hb 0 c hc
  have c0 := hr 0 c hc
  simp only [Nat.add_zero] at c0
  by_cases h8 : c < 128
  · exact read_asc b off cap c _ _ xs w c0 cl cu hx hn (by simp [Hid, bndM, h8]) rfl rfl (by simp [Hid, rd, hc, h8])
  · rcases bndM_cases c (by omega) cu with h | h
    · exact read_bad b off cap c _ _ xs w c0 cl cu hx hn h rfl rfl (by simp [Hid, rd, hc, h8, h])
    · obtain ⟨l0, l1⟩ := bndL_rng c
      obtain ⟨g0, g1⟩ := bndH_rng c
      exact read_go b off cap c _ _ _ xs w hr hb hx hc rfl rfl rfl h l0 l1 g0 g1

end Go.Proofs.Ytbdkiiaiadbmbaa
