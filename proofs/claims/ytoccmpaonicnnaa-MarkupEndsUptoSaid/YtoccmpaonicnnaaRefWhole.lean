/- sieveref01.Mend; sieveref09: end, Whole. -/
import Derived.Test.YtoccmpaonicnnaaScanR
import Derived.Test.YtoccmpaonicnnaaRefOpen
import Derived.Test.YtoccmpaonicnnaaReads1
import Derived.Test.YtoccmpaonicnnaaMend
namespace Go.Proofs.Ytoccmpaonicnnaa
open Go.RowKit
set_option linter.unusedVariables false
set_option linter.unusedSimpArgs false

set_option maxHeartbeats 1000000 in
theorem refmend_any (s : ByteArray) (w : World) (hx : s.size ≤ 274877906944) :
    Calls Try.prog 26 #[.string s] w fun e w' => e = .returned (.string (strOfNums (mendOf (ns s)))) ∧ Below w.heap.size w w' := by
  have hby := fun w0 => run_bytes_of_string (P := Try.prog) w0 9 47 5 s Try.underlying9 Try.underlying47 Try.underlying5
  have hcg := grownCap_ge w s.size 0 5
  have hl := ns_length s
  have hrl : (runesOf (ns s)).length ≤ s.size := by have := pcs_length (ns s); simp only [runesOf, List.length_map]; omega
  go_enter Try.func26, Try.ntmps26
  go_wp2_with fail
  generalize hcp : grownCap w s.size 0 5 = cp at *
  have hs1 := slI_bytesRow w s cp hcg 5 ((bytesRow s cp).size, (bytesRow s cp).size + 1)
  have hb1 : Below w.heap.size w (w.alloc (.cells (bytesRow s cp) 5 ((bytesRow s cp).size, (bytesRow s cp).size + 1))).drew := below_drewN ((Below.refl _ w).alloc (Nat.le_refl _) _) 1
  refine (refrunes_any _ _ (ns s) _ (hs1.below (below_drewN (Below.refl (w.heap.size + 1) _) 1) (Nat.le_refl _)) (by simp) (ns_byts s).byt (by omega)).mono ?_
  rintro e w1 ⟨u, rfl, hown, hb2⟩
  have hr := slI_of_owns hown (Nat.le_refl _)
  have hb3 := hb1.trans (hb2.mono hb1.size)
  have HR := Lib.hid hr
  clear hs1 hb1 hb2 hby hcg hcp hown hr
  go_wp2_with fail
  refine (reftext_any _ _ _ _ HR.out (Nat.le_refl _) (by omega)).mono ?_
  rintro e w2 ⟨rfl, hb4⟩
  go_wp2
  go_ret
  exact ⟨rfl, hb3.trans (hb4.mono hb3.size)⟩

theorem match_some {k : Int} (hk : k ≠ 0) (xs : List Int) (i : Nat) : matchAt k xs i = if xs[i]? = some 62 then 1 else 0 := by unfold matchAt; rw [if_pos hk]
theorem match_zero (xs : List Int) (i : Nat) : matchAt 0 xs i = if preB [45, 45, 62] (xs.drop i) = true then 3 else if preB [45, 45, 33, 62] (xs.drop i) = true then 4 else 0 := by unfold matchAt; rw [if_neg (by simp)]
theorem none_next {k : Int} {xs : List Int} {j : Nat} (h : ∀ m, m < j → matchAt k xs m = 0) (h2 : matchAt k xs j = 0) : ∀ m, m < j + 1 → matchAt k xs m = 0 := fun m hm => by
  by_cases e : m < j
  · exact h m e
  · obtain rfl : m = j := by omega
    exact h2

def EndPost (k : Int) (xs : List Int) (e : Ending) : Prop := ∃ to n cl, e = .returned (.tuple #[.int .i64 (to : Nat), .int .i64 (n : Nat), .bool cl]) ∧ EndSpec k xs to n cl

set_option maxHeartbeats 1000000 in
theorem refend_some (k : Int) (hk : k ≠ 0) (s : ByteArray) (w : World) (hx : s.size ≤ 1099511627776) :
    Calls Try.prog 24 #[.int .i64 k, .string s] w fun e w' => EndPost k (ns s) e ∧ w = w' := by
  have q1 : (k == 0) = false := by simpa using hk
  have q2 : (k != 0) = true := by simpa using hk
  have hl := ns_length s
  have HK := Lib.hid hk
  have HL := Lib.hid hl
  clear hk hl
  go_enter Try.func24, Try.ntmps24
  go_wp2
  go_loop [7] (fun i => ∃ j : Nat, i = .int .i64 j ∧ j ≤ s.size ∧ ∀ m, m < j → matchAt k (ns s) m = 0) (fun i => s.size - (intOf i).toNat)
  case atStart => exact ⟨0, rfl, Nat.zero_le _, fun m h => by omega⟩
  case round =>
    obtain ⟨j, rfl, hj, hall⟩ := hrel
    by_cases hjn : j < s.size
    · have hm := match_some HK.out (ns s) j
      rw [ns_get hjn] at hm
      have HA := Lib.hid hall
      have HM := Lib.hid hm
      clear hall hm
      cases hc : (((s[j]'hjn).toNat : Int) == 62)
      · have h0 : matchAt k (ns s) j = 0 := by
          rw [HM.out, if_neg]; intro e; rw [beq_eq_false_iff_ne] at hc; exact hc (Option.some.inj e)
        have hst := none_next HA.out h0
        have HS := Lib.hid hst
        clear h0 hst
        go_wp2
        go_round
        case rel => exact ⟨j + 1, by go_num, by omega, HS.out⟩
        case measure => simp [intOf]; omega
      · have h0 : matchAt k (ns s) j = 1 := by
          rw [HM.out, if_pos]; rw [beq_iff_eq] at hc; rw [hc]
        have H0 := Lib.hid h0
        clear h0
        go_wp2
        (try simp only [Exit.inBlock, Exit.then])
        refine bodyPost_ret (v := .tuple #[.int .i64 (j : Nat), .int .i64 ((j : Nat) + 1 : Int), .bool true]) (by simp [results, Try.results24, go_sem]; first | done | rfl) rfl ?_
        exact ⟨⟨j, j + 1, true, by first | rfl | simp, .inr (.inr ⟨fun e => absurd e HK.out, .inl ⟨by rw [HL.out]; exact hjn, by rw [H0.out]; omega, HA.out, by rw [H0.out], rfl⟩⟩)⟩, rfl⟩
    · obtain rfl : j = s.size := by omega
      have HA := Lib.hid hall
      clear hall
      go_wp2
      (try simp only [Exit.inBlock, Exit.then])
      refine bodyPost_ret (v := .tuple #[.int .i64 (s.size : Nat), .int .i64 (s.size : Nat), .bool false]) (by simp [results, Try.results24, go_sem]; first | done | rfl) rfl ?_
      exact ⟨⟨s.size, s.size, false, rfl, .inr (.inr ⟨fun e => absurd e HK.out, .inr ⟨by rw [HL.out]; exact HA.out, HL.out.symm, HL.out.symm, rfl⟩⟩)⟩, rfl⟩

set_option maxHeartbeats 2000000 in
theorem refend_zero (s : ByteArray) (w : World) (hx : s.size ≤ 1099511627776) :
    Calls Try.prog 24 #[.int .i64 0, .string s] w fun e w' => EndPost 0 (ns s) e ∧ w = w' := by
  have hl := ns_length s
  have HL := Lib.hid hl
  clear hl
  have b1 : ∀ w0, Calls Try.prog 36 #[.string s, .string ⟨#[62]⟩] w0 fun e w' => e = .returned (.bool (preB [62] (ns s))) ∧ w0 = w' := fun w0 => begins_any s ⟨#[62]⟩ w0 (by omega) (by decide)
  have b2 : ∀ w0, Calls Try.prog 36 #[.string s, .string ⟨#[45, 62]⟩] w0 fun e w' => e = .returned (.bool (preB [45, 62] (ns s))) ∧ w0 = w' := fun w0 => begins_any s ⟨#[45, 62]⟩ w0 (by omega) (by decide)
  have HB1 := Lib.hid b1
  have HB2 := Lib.hid b2
  clear b1 b2
  cases h1 : preB [62] (ns s)
  · cases h2 : preB [45, 62] (ns s)
    · rw [h1] at HB1
      rw [h2] at HB2
      have H1 := Lib.hid h1
      have H2 := Lib.hid h2
      clear h1 h2
      go_enter Try.func24, Try.ntmps24
      go_wp2_with fail
      refine (HB1.out _).mono ?_
      rintro e w' ⟨rfl, rfl⟩
      go_wp2_with fail
      refine (HB2.out _).mono ?_
      rintro e w' ⟨rfl, rfl⟩
      go_wp2
      go_loop [7] (fun i => ∃ j : Nat, i = .int .i64 j ∧ j ≤ s.size ∧ ∀ m, m < j → matchAt 0 (ns s) m = 0) (fun i => s.size - (intOf i).toNat)
      case atStart => exact ⟨0, rfl, Nat.zero_le _, fun m h => by omega⟩
      case round =>
        obtain ⟨j, rfl, hj, hall⟩ := hrel
        by_cases hjn : j < s.size
        · have hm := match_zero (ns s) j
          have hd : ns (s.extract j s.size) = (ns s).drop j := by rw [ns_extract, ← HL.out, List.take_length]
          have he : (s.extract j s.size).size = s.size - j := by simp
          have b3 : ∀ w0, Calls Try.prog 36 #[.string (s.extract j s.size), .string ⟨#[45, 45, 62]⟩] w0 fun e w' => e = .returned (.bool (preB [45, 45, 62] ((ns s).drop j))) ∧ w0 = w' := fun w0 => by rw [← hd]; exact begins_any (s.extract j s.size) ⟨#[45, 45, 62]⟩ w0 (by omega) (by decide)
          have b4 : ∀ w0, Calls Try.prog 36 #[.string (s.extract j s.size), .string ⟨#[45, 45, 33, 62]⟩] w0 fun e w' => e = .returned (.bool (preB [45, 45, 33, 62] ((ns s).drop j))) ∧ w0 = w' := fun w0 => by rw [← hd]; exact begins_any (s.extract j s.size) ⟨#[45, 45, 33, 62]⟩ w0 (by omega) (by decide)
          have h5 := fun w0 => run_slice_string_from (P := Try.prog) w0 9 s j (by omega) Try.underlying9
          have HA := Lib.hid hall
          have HM := Lib.hid hm
          have HB3 := Lib.hid b3
          have HB4 := Lib.hid b4
          clear hall hm b3 b4 hd he
          cases h3 : preB [45, 45, 62] ((ns s).drop j)
          · rw [h3] at HB3
            cases h4 : preB [45, 45, 33, 62] ((ns s).drop j)
            · rw [h4] at HB4
              have h0 : matchAt 0 (ns s) j = 0 := by rw [HM.out, h3, h4]; rfl
              have hst := none_next HA.out h0
              have HS := Lib.hid hst
              clear h0 hst h3 h4
              go_wp2_with fail
              refine (HB3.out _).mono ?_
              rintro e w' ⟨rfl, rfl⟩
              go_wp2_with fail
              refine (HB4.out _).mono ?_
              rintro e w' ⟨rfl, rfl⟩
              go_wp2
              go_round
              case rel => exact ⟨j + 1, by go_num, by omega, HS.out⟩
              case measure => simp [intOf]; omega
            · rw [h4] at HB4
              have h0 : matchAt 0 (ns s) j = 4 := by rw [HM.out, h3, h4]; rfl
              have H0 := Lib.hid h0
              clear h0 h3 h4
              go_wp2_with fail
              refine (HB3.out _).mono ?_
              rintro e w' ⟨rfl, rfl⟩
              go_wp2_with fail
              refine (HB4.out _).mono ?_
              rintro e w' ⟨rfl, rfl⟩
              go_wp2
              (try simp only [Exit.inBlock, Exit.then])
              refine bodyPost_ret (v := .tuple #[.int .i64 (j : Nat), .int .i64 ((j : Nat) + 4 : Int), .bool true]) (by simp [results, Try.results24, go_sem]; first | done | rfl) rfl ?_
              exact ⟨⟨j, j + 4, true, by first | rfl | simp, .inr (.inr ⟨fun _ => ⟨H1.out, H2.out⟩, .inl ⟨by rw [HL.out]; exact hjn, by rw [H0.out]; omega, HA.out, by rw [H0.out], rfl⟩⟩)⟩, rfl⟩
          · rw [h3] at HB3
            have h0 : matchAt 0 (ns s) j = 3 := by rw [HM.out, h3]; rfl
            have H0 := Lib.hid h0
            clear h0 h3
            go_wp2_with fail
            refine (HB3.out _).mono ?_
            rintro e w' ⟨rfl, rfl⟩
            go_wp2
            (try simp only [Exit.inBlock, Exit.then])
            refine bodyPost_ret (v := .tuple #[.int .i64 (j : Nat), .int .i64 ((j : Nat) + 3 : Int), .bool true]) (by simp [results, Try.results24, go_sem]; first | done | rfl) rfl ?_
            exact ⟨⟨j, j + 3, true, by first | rfl | simp, .inr (.inr ⟨fun _ => ⟨H1.out, H2.out⟩, .inl ⟨by rw [HL.out]; exact hjn, by rw [H0.out]; omega, HA.out, by rw [H0.out], rfl⟩⟩)⟩, rfl⟩
        · obtain rfl : j = s.size := by omega
          have HA := Lib.hid hall
          clear hall
          go_wp2
          (try simp only [Exit.inBlock, Exit.then])
          refine bodyPost_ret (v := .tuple #[.int .i64 (s.size : Nat), .int .i64 (s.size : Nat), .bool false]) (by simp [results, Try.results24, go_sem]; first | done | rfl) rfl ?_
          exact ⟨⟨s.size, s.size, false, rfl, .inr (.inr ⟨fun _ => ⟨H1.out, H2.out⟩, .inr ⟨by rw [HL.out]; exact HA.out, HL.out.symm, HL.out.symm, rfl⟩⟩)⟩, rfl⟩
    · rw [h1] at HB1
      rw [h2] at HB2
      have H1 := Lib.hid h1
      have H2 := Lib.hid h2
      clear h1 h2
      go_enter Try.func24, Try.ntmps24
      go_wp2_with fail
      refine (HB1.out _).mono ?_
      rintro e w' ⟨rfl, rfl⟩
      go_wp2_with fail
      refine (HB2.out _).mono ?_
      rintro e w' ⟨rfl, rfl⟩
      go_wp2
      (try simp only [Exit.inBlock, Exit.then])
      refine bodyPost_ret (v := .tuple #[.int .i64 0, .int .i64 2, .bool true]) (by simp [results, Try.results24, go_sem]; first | done | rfl) rfl ?_
      exact ⟨⟨0, 2, true, rfl, .inr (.inl ⟨rfl, H1.out, H2.out, rfl, rfl, rfl⟩)⟩, rfl⟩
  · rw [h1] at HB1
    have H1 := Lib.hid h1
    clear h1
    go_enter Try.func24, Try.ntmps24
    go_wp2_with fail
    refine (HB1.out _).mono ?_
    rintro e w' ⟨rfl, rfl⟩
    go_wp2
    (try simp only [Exit.inBlock, Exit.then])
    refine bodyPost_ret (v := .tuple #[.int .i64 0, .int .i64 1, .bool true]) (by simp [results, Try.results24, go_sem]; first | done | rfl) rfl ?_
    exact ⟨⟨0, 1, true, rfl, .inl ⟨rfl, H1.out, rfl, rfl, rfl⟩⟩, rfl⟩

theorem refend_any (k : Int) (s : ByteArray) (w : World) (hx : s.size ≤ 1099511627776) :
    Calls Try.prog 24 #[.int .i64 k, .string s] w fun e w' => EndPost k (ns s) e ∧ w = w' := by
  by_cases hk : k = 0
  · subst hk; exact refend_zero s w hx
  · exact refend_some k hk s w hx

end Go.Proofs.Ytoccmpaonicnnaa
