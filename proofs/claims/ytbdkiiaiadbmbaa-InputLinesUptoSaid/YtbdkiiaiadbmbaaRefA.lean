/- sieveref01: Same, Lend, Kept, Copy; sievelaw01.same: what they compute (Same, Kept, same: where the answer is yes). -/
import Derived.Test.YtbdkiiaiadbmbaaProg
import Derived.Test.YtbdkiiaiadbmbaaSl
namespace Go.Proofs.Ytbdkiiaiadbmbaa
open Go.RowKit
set_option linter.unusedVariables false
set_option linter.unusedSimpArgs false

theorem Try.infoU8 : (Try.prog.info? 5).map (fun i => (i.zero, i.size, i.bytes)) = some (some (.int .u8 0), 1, 1) := by kernel_rfl

def lent (xs : List Int) : List Int := [165, 165] ++ xs ++ [165, 165]

theorem made_u8 (n : Nat) : (madeCells #[Value.int .u8 0] n).toList = (List.replicate n (0 : Int)).map (Value.int .u8) := by
  rw [toList_madeCells_one]; simp

theorem fill_step (n k : Nat) (h : k < n) : ((List.replicate k (165 : Int) ++ List.replicate (n - k) 0).map (Value.int .u8)).set k (.int .u8 165) = (List.replicate (k + 1) (165 : Int) ++ List.replicate (n - (k + 1)) 0).map (Value.int .u8) := by
  obtain ⟨m, rfl⟩ : ∃ m, n = k + (m + 1) := ⟨n - k - 1, by omega⟩
  rw [show k + (m + 1) - k = m + 1 from by omega, show k + (m + 1) - (k + 1) = m from by omega, List.replicate_succ, List.replicate_succ']
  simp only [List.map_append, List.map_cons, List.append_assoc, List.cons_append, List.nil_append, List.map_nil]
  exact set_at _ _ _ _ _ (by simp)

theorem lend_step (xs : List Int) (k : Nat) (x : Int) (h : xs[k]? = some x) : (([165, 165] ++ xs.take k ++ List.replicate (xs.length + 2 - k) (165 : Int)).map (Value.int .u8)).set (k + 2) (.int .u8 x) =
    ([165, 165] ++ xs.take (k + 1) ++ List.replicate (xs.length + 2 - (k + 1)) (165 : Int)).map (Value.int .u8) := by
  have hk : k < xs.length := (List.getElem?_eq_some_iff.1 h).1
  obtain ⟨m, hm⟩ : ∃ m, xs.length + 2 - k = m + 1 := ⟨xs.length + 1 - k, by omega⟩
  rw [hm, show xs.length + 2 - (k + 1) = m from by omega, List.replicate_succ, List.take_add_one, h]
  simp only [List.map_append, List.map_cons, List.append_assoc, List.cons_append, List.nil_append, List.map_nil, Option.toList_some]
  have := set_at (Value.int .u8 165 :: Value.int .u8 165 :: (xs.take k).map (Value.int .u8)) (.int .u8 165) (.int .u8 x) ((List.replicate m (165 : Int)).map (Value.int .u8)) (k + 2) (by simp; omega)
  simpa using this

set_option maxHeartbeats 1000000 in
/-- Lend: the greater memory, and the middle of it. -/
theorem lend_any (B : Nat) (v : Value) (xs : List Int) (w : World) (hs : SlI .u8 B w v xs) (hB : B ≤ w.heap.size) (hx : xs.length ≤ 1099511627776) :
    Calls Try.prog 12 #[v] w fun e w' => ∃ g, e = .returned (.tuple #[.slice (some ⟨g, 0, none⟩) (xs.length + 4) (xs.length + 4), .slice (some ⟨g, 2, none⟩) xs.length (xs.length + 2)]) ∧ w.heap.size ≤ g ∧
      w'.ownsRow w.heap.size 5 1 (.slice (some ⟨g, 0, none⟩) (xs.length + 4) (xs.length + 4)) (xs.length + 4) ((lent xs).map (Value.int .u8)) ∧ Below w.heap.size w w' := by
  obtain ⟨ao, cap, rfl, hc, hn, hr⟩ := hs
  obtain ⟨i0, hi, hz0, hz1, hz2⟩ := info_parts Try.infoU8
  go_enter Try.func12, Try.ntmps12
  go_wp2_with (at_make; refine wpList_make_full _ rfl _ _ 25 rfl w.heap.size 5 i0 (.int .u8 0) 1 Try.underlying25 hi hz0 hz1 _ _ _ _ (xs.length + 4) rfl rfl ?h1 ?h2 ?h3 ?h4 ?h5 ?_)
  case h1 => omega
  case h2 => omega
  case h3 => rw [hz2]; omega
  case h4 => unfold maxLen; omega
  case h5 => omega
  intro w1 hown hgrow
  have hB1 : Below w.heap.size w w1 := grown_below hgrow (Nat.le_refl _) (fun k h => by cases h)
  rw [made_u8] at hown
  go_wp2
  go_loopw [14] (fun i wr => ∃ k : Nat, i = .int .i64 k ∧ k ≤ xs.length + 4 ∧ wr.ownsRow w.heap.size 5 1 (.slice (some ⟨w.heap.size, 0, none⟩) (xs.length + 4) (xs.length + 4)) (xs.length + 4) ((List.replicate k (165 : Int) ++ List.replicate (xs.length + 4 - k) 0).map (Value.int .u8)) ∧ Below w.heap.size w wr)
    (fun i _ => xs.length + 4 - (intOf i).toNat)
  case atStart => exact ⟨0, rfl, Nat.zero_le _, by simpa using hown, hB1⟩
  case round =>
    obtain ⟨k, rfl, hk, hownk, hBk⟩ := hrel
    by_cases hkn : k < xs.length + 4
    · have hc0 := hownk.cellAt k (by omega)
      have hf0 := hownk.frozenAt k
      have hst := (hownk.stored k (.int .u8 165)).1
      rw [fill_step _ _ hkn] at hst
      have HS := Lib.hid hst
      clear hst hownk
      have hc1 : ∃ y, wr.cell? ⟨w.heap.size, k, none⟩ = some y := ⟨_, by rw [hc0, List.getElem?_eq_getElem (by simp; omega)]⟩
      obtain ⟨y, hy⟩ := hc1
      clear hc0
      go_wp2
      go_roundw
      case rel => exact ⟨k + 1, by go_num, by omega, HS.out, hBk.setCell (p := ⟨w.heap.size, k, none⟩) (Nat.le_refl _) _⟩
      case measure => simp [intOf]; omega
    · obtain rfl : k = xs.length + 4 := by omega
      have hown2 : wr.ownsRow w.heap.size 5 1 (.slice (some ⟨w.heap.size, 0, none⟩) (xs.length + 4) (xs.length + 4)) (xs.length + 4) (([165, 165] ++ xs.take 0 ++ List.replicate (xs.length + 2 - 0) (165 : Int)).map (Value.int .u8)) := by
        have e : List.replicate (xs.length + 4) (165 : Int) ++ List.replicate (xs.length + 4 - (xs.length + 4)) 0 = [165, 165] ++ xs.take 0 ++ List.replicate (xs.length + 2 - 0) (165 : Int) := by
          rw [Nat.sub_self, show xs.length + 4 = (xs.length + 2) + 1 + 1 from by omega, List.replicate_succ, List.replicate_succ]; simp
        rw [e] at hownk; exact hownk
      clear hownk
      go_wp2
      obtain ⟨w2, rfl⟩ : ∃ w2 : World, w2 = wr := ⟨_, rfl⟩
      go_loopw [23] (fun i wr => ∃ k : Nat, i = .int .i64 k ∧ k ≤ xs.length ∧ wr.ownsRow w.heap.size 5 1 (.slice (some ⟨w.heap.size, 0, none⟩) (xs.length + 4) (xs.length + 4)) (xs.length + 4) (([165, 165] ++ xs.take k ++ List.replicate (xs.length + 2 - k) (165 : Int)).map (Value.int .u8)) ∧ Below w.heap.size w wr)
        (fun i _ => xs.length - (intOf i).toNat)
      case atStart => exact ⟨0, rfl, Nat.zero_le _, hown2, hBk⟩
      case round =>
        clear hown2 hBk
        obtain ⟨k, rfl, hk, hownk, hBk⟩ := hrel
        by_cases hkn : k < xs.length
        · obtain ⟨b, off, rfl, hlt, hrun⟩ := hr (by omega)
          obtain ⟨x, hxk⟩ := get_of_lt xs hkn
          have hcx : wr.cell? ⟨b, off + k, none⟩ = some (.int .u8 x) := (hBk.cell (p := ⟨b, off + k, none⟩) (by show b < w.heap.size; omega)).trans (hrun k x hxk)
          have hc0 := hownk.cellAt (k + 2) (by omega)
          have hf0 := hownk.frozenAt (k + 2)
          have hst := (hownk.stored (k + 2) (.int .u8 x)).1
          rw [lend_step _ _ _ hxk] at hst
          have HS := Lib.hid hst
          clear hst hownk
          have hc1 : ∃ y, wr.cell? ⟨w.heap.size, k + 2, none⟩ = some y := ⟨_, by rw [hc0, List.getElem?_eq_getElem (by simp; omega)]⟩
          obtain ⟨y, hy⟩ := hc1
          clear hc0 hxk
          go_wp2
          go_roundw
          case rel => exact ⟨k + 1, by go_num, by omega, HS.out, hBk.setCell (p := ⟨w.heap.size, k + 2, none⟩) (Nat.le_refl _) _⟩
          case measure => simp [intOf]; omega
        · obtain rfl : k = xs.length := by omega
          go_wp2
          go_quiet (fail)
          go_wp2
          go_ret2
          refine ⟨w.heap.size, ?_, Nat.le_refl _, ?_, below_drewN hBk _⟩
          · simp
          · have e : [165, 165] ++ xs.take xs.length ++ List.replicate (xs.length + 2 - xs.length) (165 : Int) = lent xs := by
              rw [show xs.length + 2 - xs.length = 2 from by omega, List.take_length]; rfl
            rw [e] at hownk; exact hownk

set_option maxHeartbeats 400000 in
theorem kept_yes (B : Nat) (v1 v2 : Value) (xs : List Int) (w : World) (h1 : SlI .u8 B w v1 (lent xs)) (h2 : SlI .u8 B w v2 xs) (hb : Byt xs) (hx : xs.length ≤ 1099511627776) :
    Calls Try.prog 20 #[v1, v2] w fun e w' => e = .returned (.bool true) ∧ Drew w w' := by
  obtain ⟨ao, ca, rfl, hca, hna, hra⟩ := h1
  obtain ⟨bo, cb, rfl, hcb, hnb, hrb⟩ := h2
  obtain ⟨b1, o1, rfl, hb1, r1⟩ := hra (by simp [lent])
  have hl : (lent xs).length = xs.length + 4 := by simp [lent]
  rw [hl] at hca ⊢
  go_enter Try.func20, Try.ntmps20
  go_wp2
  go_loop [16] (fun i => ∃ k : Nat, i = .int .i64 k ∧ k ≤ xs.length + 4) (fun i => xs.length + 4 - (intOf i).toNat)
  case atStart => exact ⟨0, rfl, Nat.zero_le _⟩
  case round =>
    obtain ⟨k, rfl, hk⟩ := hrel
    by_cases hkn : k < xs.length + 4
    · by_cases hk2 : k < 2
      · have hcx := r1 k 165 (by rcases (show k = 0 ∨ k = 1 from by omega) with rfl | rfl <;> rfl)
        go_wp2
        go_round
        case rel => exact ⟨k + 1, by go_num, by omega⟩
        case measure => simp [intOf]; omega
      · by_cases hk3 : k < xs.length + 2
        · obtain ⟨j, rfl⟩ : ∃ j, k = j + 2 := ⟨k - 2, by omega⟩
          obtain ⟨b, off, rfl, hlt, hrun⟩ := hrb (by omega)
          obtain ⟨x, hxk⟩ := get_of_lt xs (show j < xs.length from by omega)
          have hcy := hrun j x hxk
          have hcx := r1 (j + 2) x (by simp [lent, List.getElem?_append, hxk]; omega)
          obtain ⟨x0, x1⟩ := hb j x hxk
          clear hxk
          go_wp2
          go_round
          case rel => exact ⟨j + 2 + 1, by go_num, by omega⟩
          case measure => simp [intOf]; omega
        · have hcx := r1 k 165 (by rcases (show k = xs.length + 2 ∨ k = xs.length + 3 from by omega) with rfl | rfl <;> simp [lent, List.getElem?_append])
          go_wp2
          go_round
          case rel => exact ⟨k + 1, by go_num, by omega⟩
          case measure => simp [intOf]; omega
    · obtain rfl : k = xs.length + 4 := by omega
      go_wp2
      go_ret
      exact ⟨rfl, Drew.refl w⟩

/-- Copy: in new memory. -/
theorem copy_step (xs : List Int) (k : Nat) (x : Int) (h : xs[k]? = some x) : ((xs.take k ++ List.replicate (xs.length - k) (0 : Int)).map (Value.int .u8)).set k (.int .u8 x) =
    ((xs.take (k + 1) ++ List.replicate (xs.length - (k + 1)) (0 : Int)).map (Value.int .u8)) := by
  have hk : k < xs.length := (List.getElem?_eq_some_iff.1 h).1
  obtain ⟨m, hm⟩ : ∃ m, xs.length - k = m + 1 := ⟨xs.length - k - 1, by omega⟩
  rw [hm, show xs.length - (k + 1) = m from by omega, List.replicate_succ, List.take_add_one, h]
  simp only [List.map_append, List.map_cons, List.append_assoc, List.cons_append, List.nil_append, List.map_nil, Option.toList_some]
  exact set_at _ _ _ _ _ (by simp; omega)

set_option maxHeartbeats 1000000 in
theorem copy_any (B : Nat) (v : Value) (xs : List Int) (w : World) (hs : SlI .u8 B w v xs) (hB : B ≤ w.heap.size) (hx : xs.length ≤ 1099511627776) :
    Calls Try.prog 40 #[v] w fun e w' => e = .returned (.slice (some ⟨w.heap.size, 0, none⟩) xs.length xs.length) ∧
      w'.ownsRow w.heap.size 5 1 (.slice (some ⟨w.heap.size, 0, none⟩) xs.length xs.length) xs.length (xs.map (Value.int .u8)) ∧ Below w.heap.size w w' := by
  obtain ⟨ao, cap, rfl, hc, hn, hr⟩ := hs
  obtain ⟨i0, hi, hz0, hz1, hz2⟩ := info_parts Try.infoU8
  go_enter Try.func40, Try.ntmps40
  go_wp2_with (at_make; refine wpList_make_full _ rfl _ _ 25 rfl w.heap.size 5 i0 (.int .u8 0) 1 Try.underlying25 hi hz0 hz1 _ _ _ _ xs.length rfl rfl ?h1 ?h2 ?h3 ?h4 ?h5 ?_)
  case h1 => omega
  case h2 => omega
  case h3 => rw [hz2]; omega
  case h4 => unfold maxLen; omega
  case h5 => omega
  intro w1 hown hgrow
  have hB1 : Below w.heap.size w w1 := grown_below hgrow (Nat.le_refl _) (fun k h => by cases h)
  rw [made_u8] at hown
  go_wp2
  go_loopw [11] (fun i wr => ∃ k : Nat, i = .int .i64 k ∧ k ≤ xs.length ∧ wr.ownsRow w.heap.size 5 1 (.slice (some ⟨w.heap.size, 0, none⟩) xs.length xs.length) xs.length ((xs.take k ++ List.replicate (xs.length - k) (0 : Int)).map (Value.int .u8)) ∧ Below w.heap.size w wr)
    (fun i _ => xs.length - (intOf i).toNat)
  case atStart => exact ⟨0, rfl, Nat.zero_le _, by simpa using hown, hB1⟩
  case round =>
    obtain ⟨k, rfl, hk, hownk, hBk⟩ := hrel
    by_cases hkn : k < xs.length
    · obtain ⟨b, off, rfl, hlt, hrun⟩ := hr (by omega)
      obtain ⟨x, hxk⟩ := get_of_lt xs hkn
      have hcx : wr.cell? ⟨b, off + k, none⟩ = some (.int .u8 x) := (hBk.cell (p := ⟨b, off + k, none⟩) (by show b < w.heap.size; omega)).trans (hrun k x hxk)
      have hc0 := hownk.cellAt k (by omega)
      have hf0 := hownk.frozenAt k
      have hst := (hownk.stored k (.int .u8 x)).1
      rw [copy_step _ _ _ hxk] at hst
      have HS := Lib.hid hst
      clear hst hownk
      have hc1 : ∃ y, wr.cell? ⟨w.heap.size, k, none⟩ = some y := ⟨_, by rw [hc0, List.getElem?_eq_getElem (by simp; omega)]⟩
      obtain ⟨y, hy⟩ := hc1
      clear hc0 hxk
      go_wp2
      go_roundw
      case rel => exact ⟨k + 1, by go_num, by omega, HS.out, hBk.setCell (p := ⟨w.heap.size, k, none⟩) (Nat.le_refl _) _⟩
      case measure => simp [intOf]; omega
    · obtain rfl : k = xs.length := by omega
      go_wp2
      go_ret
      refine ⟨rfl, ?_, hBk⟩
      simpa using hownk

end Go.Proofs.Ytbdkiiaiadbmbaa
