/- sieveref01.size, second, good. -/
import Derived.Test.YtbdkiiaiadbmbaaRead
import Derived.Test.YtbdkiiaiadbmbaaUtfC
import Derived.Test.YtbdkiiaiadbmbaaDecB
namespace Go.Proofs.Ytbdkiiaiadbmbaa
open Go.RowKit
set_option linter.unusedVariables false
set_option linter.unusedSimpArgs false

set_option maxHeartbeats 400000 in
theorem size_any (c : Int) (N : Int) (w : World) (h0 : 0 ≤ c) (h1 : c ≤ 255) (hN : Hid (bndM c + 1 = N)) :
    Calls Try.prog 48 #[.int .u8 c] w fun e w' => e = .returned (.int .i64 N) ∧ w = w' := by
  go_enter Try.func48, Try.ntmps48
  go_wp2
  all_goals go_ret
  all_goals (refine ⟨ret_intx ?_, rfl⟩)
  all_goals (try simp only [beq_iff_eq, beq_eq_false_iff_ne, ne_eq] at *)
  all_goals (rw [← hN.out]; unfold bndM; (repeat' split) <;> omega)

set_option maxHeartbeats 400000 in
theorem second_any (c d : Int) (B : Bool) (w : World) (h0 : 194 ≤ c) (h1 : c ≤ 244) (d0 : 0 ≤ d) (d1 : d ≤ 255) (hB : Hid (B = true ↔ (bndL c ≤ d ∧ d ≤ bndH c))) :
    Calls Try.prog 49 #[.int .u8 c, .int .u8 d] w fun e w' => e = .returned (.bool B) ∧ w = w' := by
  go_enter Try.func49, Try.ntmps49
  go_wp2
  all_goals go_ret
  all_goals (refine ⟨ret_boolx ?_, rfl⟩)
  all_goals (try simp only [beq_iff_eq, beq_eq_false_iff_ne, ne_eq] at *)
  all_goals (rw [Bool.eq_iff_iff, hB.out]; simp only [decide_eq_true_eq, true_iff, false_iff, Bool.false_eq_true]; unfold bndL bndH; (repeat' split) <;> omega)

theorem quiet_left {P : Program} {f : FuncId} {args : Array Value} {w : World} {n : Nat} {v : Value}
    (h : Calls P f args (w.drewN n) fun e w' => e = .returned v ∧ w.drewN n = w') : Calls P f args (w.drewN n) fun e w' => e = .returned v ∧ ∃ m, w' = w.drewN m :=
  h.mono fun _ _ ⟨he, hm⟩ => ⟨he, n, hm.symm⟩

theorem ret_kb {a b : Int} {x y : Bool} (h : a = b) (h' : x = y) : Ending.returned (.tuple #[.int .i64 a, .bool x]) = .returned (.tuple #[.int .i64 b, .bool y]) := by rw [h, h']

set_option maxHeartbeats 2000000 in
theorem refgood_any (b off cap : Nat) (xs : List Int) (w : World) (hr : Run .u8 w b off xs) (hb : Byt xs) (hx : xs.length ≤ 9223372036854775807) (hn : 0 < xs.length) :
    Calls Try.prog 41 #[.slice (some ⟨b, off, none⟩) xs.length cap] w fun e w' => e = .returned (.tuple #[.int .i64 (goodK xs), .bool (goodA xs)]) ∧ Drew w w' := by
  obtain ⟨c, hc⟩ := get_of_lt xs hn
  obtain ⟨c0, c1⟩ := hb 0 c hc
  have hcell := hr 0 c hc
  simp only [Nat.add_zero] at hcell
  have hget : xs.getD 0 0 = c := by simp [List.getD, hc]
  have hM : -1 ≤ bndM c ∧ bndM c ≤ 3 := by unfold bndM; (repeat' split) <;> omega
  obtain ⟨N, hN⟩ : ∃ N : Nat, bndM c + 1 = (N : Int) := ⟨(bndM c + 1).toNat, by omega⟩
  by_cases hN0 : N = 0
  · subst hN0
    have hK : goodK xs = 0 := by
      have h8 : ¬ c < 128 := by intro h8; simp [bndM, h8] at hN
      unfold goodK; rw [hget, if_pos ⟨by omega, by omega⟩]
    have hA : goodA xs = false := by
      have h8 : ¬ c < 128 := by intro h8; simp [bndM, h8] at hN
      have h9 : bndM c < 0 := by omega
      simp [goodA, rd, hc, h8, h9]
    have HK := Lib.hid hK
    have HA := Lib.hid hA
    clear hK hA hget hc
    go_enter Try.func41, Try.ntmps41
    go_wp2_with (go_at_call 48; refine (size_any c 0 _ c0 c1 hN).mono ?_; rintro e w' ⟨rfl, rfl⟩)
    go_ret2
    exact ⟨ret_kb (by rw [HK.out]; rfl) (by rw [HA.out]), Drew.refl _⟩
  · obtain ⟨x0, hx0⟩ := rd_unfold hc c0 hN (by omega)
    have hK : goodK xs = (rd xs).2.1 := by
      unfold goodK; rw [hget, if_neg]; rintro ⟨h8, h9⟩; omega
    have HK := Lib.hid hK
    have HX := Lib.hid hx0
    have HC := Lib.hid hc
    have hN3 : N ≤ 4 := by omega
    have hN1 : 1 ≤ N := by omega
    have hne0 : ((N : Int) == 0) = false := beq_eq_false_iff_ne.2 (by omega)
    clear hK hx0 hget hc hN0
    go_enter Try.func41, Try.ntmps41
    go_wp2_with (go_at_call 48; refine (size_any c N _ c0 c1 hN).mono ?_; rintro e w' ⟨rfl, rfl⟩)
    go_loopw [5] (fun i wr => ∃ (k : Nat) (x l h : Int), i = .int .i64 k ∧ 1 ≤ k ∧ k ≤ N ∧ k ≤ xs.length ∧ ((k = 1 ∧ l = bndL c ∧ h = bndH c) ∨ (2 ≤ k ∧ l = 128 ∧ h = 191)) ∧ rdGo xs (N - 1) (N - k) k x l h = rd xs ∧ Drew w wr) (fun i _ => N - (intOf i).toNat)
    case atStart => exact ⟨1, x0, _, _, rfl, by omega, by omega, by omega, .inl ⟨rfl, rfl, rfl⟩, HX.out, Drew.refl w⟩
    case round =>
      obtain ⟨k, x, l, h, rfl, hk1, hkN, hkl, hlh, hgo, hd⟩ := hrel
      have HLH := Lib.hid hlh
      have HG := Lib.hid hgo
      have hcell1 := (hd.cell _).trans hcell
      clear hlh hgo
      by_cases hkn : k < N
      · by_cases hkx : k < xs.length
        · obtain ⟨y, hy⟩ := get_of_lt xs hkx
          have hcy := (hd.cell _).trans (hr k y hy)
          obtain ⟨y0, y1⟩ := hb k y hy
          have HY := Lib.hid hy
          clear hy
          by_cases hk1' : k = 1
          · subst hk1'
            have hcr : 194 ≤ c ∧ c ≤ 244 := by unfold bndM at hN; (repeat' split at hN) <;> omega
            obtain ⟨cr0, cr1⟩ := hcr
            have hnx : (decide (bndL c ≤ y) && decide (y ≤ bndH c)) = true ∨ (decide (bndL c ≤ y) && decide (y ≤ bndH c)) = false := by
              cases (decide (bndL c ≤ y) && decide (y ≤ bndH c)) <;> simp
            rcases hnx with hyes | hno
            · have hsec := fun w0 => second_any c y true w0 cr0 cr1 y0 y1 (show _ ↔ _ from by simpa using hyes)
              have HYES := Lib.hid hyes
              clear hyes
              go_wp2
              go_quiet ((go_at_call 49; exact quiet_left (hsec _)))
              go_wp2
              go_roundw
              case rel =>
                refine ⟨2, x * 64 + y % 64, 128, 191, rfl, by omega, by omega, by omega, .inr ⟨by omega, rfl, rfl⟩, ?_, hd.drewN _⟩
                obtain ⟨_, hl, hh⟩ | ⟨h2, _⟩ := HLH.out
                · rw [← HG.out, show N - 1 = (N - 2) + 1 from by omega]
                  have hy2 := HYES.out
                  simp only [Bool.and_eq_true, decide_eq_true_eq] at hy2
                  rw [hl, hh]
                  exact (rdGo_step HY.out hy2.1 hy2.2 _ _ _).symm
                · omega
              case measure => simp [intOf]; omega
            · have hsec := fun w0 => second_any c y false w0 cr0 cr1 y0 y1 (show _ ↔ _ from by rw [← hno]; simp)
              have HNO := Lib.hid hno
              have hNe : ((1 : Int) == (N : Int)) = false := beq_eq_false_iff_ne.2 (by omega)
              clear hno
              go_wp2
              go_quiet ((go_at_call 49; exact quiet_left (hsec _)))
              go_wp2
              go_ret2
              have E : rd xs = (65533, 1, 1) := by
                obtain ⟨_, hl, hh⟩ | ⟨h2, _⟩ := HLH.out
                · rw [← HG.out, show N - 1 = (N - 2) + 1 from by omega]
                  have hy2 := HNO.out
                  simp only [Bool.and_eq_false_iff, decide_eq_false_iff_not] at hy2
                  rw [hl, hh]
                  exact rdGo_bad HY.out (by omega) _ _ _
                · omega
              exact ⟨ret_kb (by rw [HK.out, E]; rfl) (by rw [goodA, E]; rfl), hd.drewN _⟩
          · have hk2 : ((k : Int) == 1) = false := beq_eq_false_iff_ne.2 (by omega)
            have hk3 : decide ((1 : Int) < (k : Int)) = true := by simp; omega
            have hNe : ((k : Int) == (N : Int)) = false := beq_eq_false_iff_ne.2 (by omega)
            have hl128 : l = 128 ∧ h = 191 := by
              obtain ⟨h1, _⟩ | ⟨_, hl, hh⟩ := HLH.out
              · omega
              · exact ⟨hl, hh⟩
            obtain ⟨rfl, rfl⟩ := hl128
            by_cases hylo : y < 128
            · go_wp2
              go_quiet (fail)
              go_wp2
              go_ret2
              have E : rd xs = (65533, k, 1) := by
                rw [← HG.out, show N - k = (N - k - 1) + 1 from by omega]
                exact rdGo_bad HY.out (by omega) _ _ _
              exact ⟨ret_kb (by rw [HK.out, E]) (by rw [goodA, E]; rfl), hd.drewN _⟩
            · have hd1 : decide (y < 128) = false := by simp; omega
              by_cases hyhi : 191 < y
              · go_wp2
                go_quiet (fail)
                go_wp2
                go_ret2
                have E : rd xs = (65533, k, 1) := by
                  rw [← HG.out, show N - k = (N - k - 1) + 1 from by omega]
                  exact rdGo_bad HY.out (by omega) _ _ _
                exact ⟨ret_kb (by rw [HK.out, E]) (by rw [goodA, E]; rfl), hd.drewN _⟩
              · go_wp2
                go_quiet (fail)
                go_wp2
                go_roundw
                case rel =>
                  refine ⟨k + 1, x * 64 + y % 64, 128, 191, by go_num, by omega, by omega, by omega, .inr ⟨by omega, rfl, rfl⟩, ?_, hd.drewN _⟩
                  rw [← HG.out, show N - k = (N - (k + 1)) + 1 from by omega]
                  exact (rdGo_step HY.out (by omega) (by omega) _ _ _).symm
                case measure => simp [intOf]; omega
        · obtain rfl : k = xs.length := by omega
          have hNe : ((xs.length : Int) == (N : Int)) = false := beq_eq_false_iff_ne.2 (by omega)
          go_wp2
          go_ret2
          have E : rd xs = (65533, xs.length, 2) := by
            rw [← HG.out, show N - xs.length = (N - xs.length - 1) + 1 from by omega]
            exact rdGo_none (by simp) _ _ _ _ _
          exact ⟨ret_kb (by rw [HK.out, E]) (by rw [goodA, E]; rfl), hd⟩
      · obtain rfl : k = N := by omega
        go_wp2
        go_ret2
        have E : rd xs = (x, k, 0) := by
          rw [← HG.out, Nat.sub_self, rdGo_end, show k - 1 + 1 = k from by omega]
        exact ⟨ret_kb (by rw [HK.out, E]) (by rw [goodA, E]; rfl), hd⟩

end Go.Proofs.Ytbdkiiaiadbmbaa
