/- markup.Open, sieveref09.Open, and what they call. -/
import Derived.Test.YtoccmpaonicnnaaMend
import Derived.Test.YtoccmpaonicnnaaStep
namespace Go.Proofs.Ytoccmpaonicnnaa
open Go.RowKit
set_option linter.unusedVariables false
set_option linter.unusedSimpArgs false

theorem prefix_iff {ws xs : List Int} : ws <+: xs ↔ ws.length ≤ xs.length ∧ xs.take ws.length = ws := by
  constructor
  · rintro ⟨r, rfl⟩; simp
  · rintro ⟨h, h2⟩
    have := List.take_append_drop ws.length xs
    rw [h2] at this
    exact ⟨_, this⟩
def preB (ws xs : List Int) : Bool := decide (ws <+: xs)
theorem ext_beq (s p : ByteArray) (h : p.size ≤ s.size) : ((s.extract 0 p.size).toList == p.toList) = preB (ns p) (ns s) := by
  rw [toList_beq2, preB, Bool.eq_iff_iff, decide_eq_true_eq, decide_eq_true_eq, prefix_iff, ns_length, ns_length]
  constructor
  · intro e
    refine ⟨h, ?_⟩
    have := congrArg ns e
    rw [ns_extract] at this
    simpa using this
  · rintro ⟨_, e⟩
    apply ns_inj
    rw [ns_extract]; simpa using e

theorem hasPrefix_any (s p : ByteArray) (w : World) (hs : s.size ≤ 9223372036854775807) (hp : p.size ≤ 9223372036854775807) :
    Calls Try.prog 20 #[.string s, .string p] w fun e w' => e = .returned (.bool (preB (ns p) (ns s))) ∧ w = w' := by
  by_cases h : p.size ≤ s.size
  · have he := ext_beq s p h
    have h1 : decide ((p.size : Int) ≤ (s.size : Int)) = true := by simp; omega
    have h5 := fun w0 => run_slice_string_to (P := Try.prog) w0 9 s p.size h Try.underlying9
    have HE := Lib.hid he
    clear he
    go_enter Try.func20, Try.ntmps20
    go_wp2_with go_in
    go_ret
    exact ⟨ret_boolx HE.out, rfl⟩
  · have he : preB (ns p) (ns s) = false := by
      unfold preB; rw [decide_eq_false_iff_not, prefix_iff, ns_length, ns_length]; omega
    have h1 : decide ((p.size : Int) ≤ (s.size : Int)) = false := by simp; omega
    have HE := Lib.hid he
    clear he
    go_enter Try.func20, Try.ntmps20
    go_wp2_with go_in
    go_ret
    exact ⟨ret_boolx HE.out.symm, rfl⟩

def lowC (c : Int) : Int := if 65 ≤ c ∧ c ≤ 90 then c + 32 else c
def lowL (xs : List Int) : List Int := xs.map lowC
theorem lowC_byte {c : Int} (h0 : 0 ≤ c) (h1 : c ≤ 255) : 0 ≤ lowC c ∧ lowC c ≤ 255 := by unfold lowC; split <;> omega
theorem lowL_byts {xs : List Int} (h : Byts xs) : Byts (lowL xs) := by
  intro x hx
  obtain ⟨y, hy, rfl⟩ := List.mem_map.1 hx
  exact lowC_byte (h y hy).1 (h y hy).2

/-- a row of bytes in a block of its own, whatever its mark behind it -/
def ByteRow (w : World) (b : Nat) (ys : List Int) : Prop := ∃ C n m, w.heap[b]? = some (.cells C 5 (n, m)) ∧ ys.length ≤ n ∧ ∀ (j : Nat) y, ys[j]? = some y → C[j]? = some (.int .u8 y)
theorem ByteRow.cell {w : World} {b : Nat} {ys : List Int} (h : ByteRow w b ys) {j : Nat} {y : Int} (hj : ys[j]? = some y) : w.cell? ⟨b, j, none⟩ = some (.int .u8 y) ∧ w.frozen? ⟨b, j, none⟩ = false := by
  obtain ⟨C, n, m, hb, hn, hc⟩ := h
  have hl := (List.getElem?_eq_some_iff.1 hj).1
  have h1 := hc j y hj
  constructor
  · simp [World.cell?, hb, h1]
  · simp only [World.frozen?, hb]
    simp; omega
theorem ByteRow.run {w : World} {b : Nat} {ys : List Int} (h : ByteRow w b ys) : Run .u8 w b 0 ys := fun j y hj => by rw [Nat.zero_add]; exact (h.cell hj).1
theorem ByteRow.lt {w : World} {b : Nat} {ys : List Int} (h : ByteRow w b ys) : b < w.heap.size := by
  obtain ⟨C, n, m, hb, _⟩ := h; exact (Array.getElem?_eq_some_iff.1 hb).1
theorem ByteRow.set {w : World} {b : Nat} {ys : List Int} (h : ByteRow w b ys) {k : Nat} (hk : k < ys.length) (x : Int) : ByteRow (w.setCell ⟨b, k, none⟩ (.int .u8 x)) b (ys.set k x) := by
  obtain ⟨C, n, m, hb, hn, hc⟩ := h
  have hkc : k < C.size := by
    have := hc k ys[k] (List.getElem?_eq_getElem hk)
    exact (Array.getElem?_eq_some_iff.1 this).1
  refine ⟨C.setIfInBounds k (.int .u8 x), n, m, ?_, by simpa using hn, fun j y hj => ?_⟩
  · simp [World.setCell, Array.getElem?_modify, hb]
  · rw [List.getElem?_set] at hj
    rw [Array.getElem?_setIfInBounds]
    by_cases e : k = j
    · subst e
      rw [if_pos rfl, if_pos hkc]
      rw [if_pos rfl, if_pos hk] at hj
      cases hj; rfl
    · rw [if_neg e]
      rw [if_neg e] at hj
      exact hc j y hj
theorem byteRow_new (w : World) (s : ByteArray) (cp : Nat) : ByteRow (w.alloc (.cells (bytesRow s cp) 5 ((bytesRow s cp).size, (bytesRow s cp).size + 1))) w.heap.size (ns s) := by
  refine ⟨bytesRow s cp, _, _, World.alloc_heap_new w _, ?_, fun j y hj => ?_⟩
  · rw [ns_length]; simp [bytesRow]
  · have hlt : j < s.size := by rw [← ns_length]; exact (List.getElem?_eq_some_iff.1 hj).1
    rw [ns_get hlt] at hj
    rw [bytesRow_at s cp j hlt]
    exact congrArg (fun x => some (Value.int .u8 x)) (Option.some.inj hj)
theorem ByteRow.drew {w : World} {b : Nat} {ys : List Int} (h : ByteRow w b ys) (n : Nat) : ByteRow (w.drewN n) b ys := h

theorem low_step {xs : List Int} {k : Nat} {c : Int} (h : xs[k]? = some c) : ((lowL (xs.take k) ++ xs.drop k).set k (lowC c)) = lowL (xs.take (k + 1)) ++ xs.drop (k + 1) ∧ (lowL (xs.take k) ++ xs.drop k)[k]? = some c := by
  have hk := (List.getElem?_eq_some_iff.1 h).1
  have hl : (lowL (xs.take k)).length = k := by simp [lowL]; omega
  have hd : xs.drop k = c :: xs.drop (k + 1) := by
    rw [List.drop_eq_getElem_cons hk]; congr 1
    exact (List.getElem?_eq_some_iff.1 h).2
  constructor
  · rw [hd, List.take_add_one, h]
    have := set_at (lowL (xs.take k)) c (lowC c) (xs.drop (k + 1)) k hl
    rw [this]
    simp [lowL]
  · rw [List.getElem?_append_right (by omega), hl, Nat.sub_self, hd]; rfl

set_option maxHeartbeats 1000000 in
theorem lower_any (s : ByteArray) (w : World) (hx : s.size ≤ 1099511627776) :
    Calls Try.prog 21 #[.string s] w fun e w' => e = .returned (.string (strOfNums (lowL (ns s)))) ∧ Below w.heap.size w w' := by
  have hby := fun w0 => run_bytes_of_string (P := Try.prog) w0 9 47 5 s Try.underlying9 Try.underlying47 Try.underlying5
  have hrow := fun cp => byteRow_new w s cp
  have hlen := ns_length s
  have hbt := ns_byts s
  have HR := Lib.hid hrow
  have HL := Lib.hid hlen
  have HB := Lib.hid hbt
  have hcg := grownCap_ge w s.size 0 5
  clear hrow hlen hbt
  go_enter Try.func21, Try.ntmps21
  go_wp2
  generalize grownCap w s.size 0 5 = cp at *
  go_loopw [10] (fun i wr => ∃ k : Nat, i = .int .i64 k ∧ k ≤ s.size ∧ ByteRow wr w.heap.size (lowL ((ns s).take k) ++ (ns s).drop k) ∧ Below w.heap.size w wr) (fun i _ => s.size - (intOf i).toNat)
  case atStart =>
    refine ⟨0, rfl, Nat.zero_le _, ?_, ?_⟩
    · have e : lowL ((ns s).take 0) ++ (ns s).drop 0 = ns s := by simp [lowL]
      rw [e]; exact (HR.out cp).drew 1
    · exact below_drewN ((Below.refl w.heap.size w).alloc (Nat.le_refl _) _) 1
  case round =>
    obtain ⟨k, rfl, hk, hrow, hbw⟩ := hrel
    by_cases hkn : k < s.size
    · obtain ⟨c, hc⟩ := get_of_lt (ns s) (show k < (ns s).length by rw [HL.out]; exact hkn)
      obtain ⟨h1, h2⟩ := low_step hc
      obtain ⟨q1, q2⟩ := hrow.cell h2
      obtain ⟨b0, b1⟩ := HB.out c (List.mem_of_getElem? hc)
      have hst := hrow.set (k := k) (by rw [List.length_append]; simp [lowL]; have := HL.out; omega) (lowC c)
      rw [h1] at hst
      by_cases hcap : 65 ≤ c ∧ c ≤ 90
      · obtain ⟨g0, g1⟩ := hcap
        have hlc : lowC c = c + 32 := by unfold lowC; rw [if_pos ⟨g0, g1⟩]
        rw [hlc] at hst
        have HS := Lib.hid hst
        clear hst hc h1 h2 hlc hrow
        go_wp2
        go_roundw
        case rel => exact ⟨k + 1, by go_num, by omega, HS.out, hbw.setCell (p := ⟨w.heap.size, k, none⟩) (Nat.le_refl _) _⟩
        case measure => simp [intOf]; omega
      · have hlc : lowC c = c := by unfold lowC; rw [if_neg hcap]
        have hsame : lowL ((ns s).take (k + 1)) ++ (ns s).drop (k + 1) = lowL ((ns s).take k) ++ (ns s).drop k := by
          rw [← h1, hlc]
          obtain ⟨hlt, he⟩ := List.getElem?_eq_some_iff.1 h2
          conv => lhs; rw [← he]
          exact List.set_getElem_self hlt
        rw [← hsame] at hrow
        have HS := Lib.hid hrow
        clear hst hc h1 h2 hlc hsame hrow
        by_cases g0 : 65 ≤ c
        · have g1 : 90 < c := by omega
          go_wp2
          go_roundw
          case rel => exact ⟨k + 1, by go_num, by omega, HS.out, hbw⟩
          case measure => simp [intOf]; omega
        · go_wp2
          go_roundw
          case rel => exact ⟨k + 1, by go_num, by omega, HS.out, hbw⟩
          case measure => simp [intOf]; omega
    · obtain rfl : k = s.size := by omega
      have hfull : lowL ((ns s).take s.size) ++ (ns s).drop s.size = lowL (ns s) := by rw [← HL.out, List.take_length, List.drop_length, List.append_nil]
      rw [hfull] at hrow
      have hsl : SlI .u8 wr.heap.size wr (.slice (some ⟨w.heap.size, 0, none⟩) s.size cp) (lowL (ns s)) := by
        have := SlI.run (cap := cp) hrow.run hrow.lt (by rw [lowL, List.length_map, HL.out]; exact hcg)
        rw [lowL, List.length_map, HL.out] at this
        exact this
      have hcv := run_conv_sl (P := Try.prog) hsl 47 9 5 Try.underlying47 Try.underlying5 Try.underlying9
      clear hfull hrow hsl
      go_wp2
      go_ret
      exact ⟨rfl, hbw⟩

def docL : List Int := [100, 111, 99, 116, 121, 112, 101]
/-- what stands behind <! -/
def openOf (xs : List Int) : Int × Int := if preB [45, 45] xs = true then (0, 2) else if lowL (xs.take 7) = docL then (1, 7) else (2, 0)
theorem ret_22 {a b c d : Int} (h : (a, c) = (b, d)) : Ending.returned (.tuple #[.int .i64 a, .int .i64 c]) = .returned (.tuple #[.int .i64 b, .int .i64 d]) := by
  injection h with h1 h2; rw [h1, h2]

theorem open_any' (s : ByteArray) (w : World) (hx : s.size ≤ 9223372036854775807) :
    Calls Try.prog 8 #[.string s] w fun e w' => e = .returned (.tuple #[.int .i64 (openOf (ns s)).1, .int .i64 (openOf (ns s)).2]) ∧ Below w.heap.size w w' := by
  have hhp := fun w0 => hasPrefix_any s ⟨#[45, 45]⟩ w0 (by omega) (by decide)
  have e2 : ns (⟨#[45, 45]⟩ : ByteArray) = [45, 45] := by decide +kernel
  rw [e2] at hhp
  have hl := ns_length s
  cases hd : preB [45, 45] (ns s)
  · rw [hd] at hhp
    have HP := Lib.hid hhp
    by_cases h7 : 7 ≤ s.size
    · have h1 : decide ((7 : Int) ≤ (s.size : Int)) = true := by simp; omega
      have hsl := fun w0 => run_slice_string_to (P := Try.prog) w0 9 s 7 h7 Try.underlying9
      have e7 : ns (s.extract 0 7) = (ns s).take 7 := by rw [ns_extract, List.drop_zero]
      have hlo := fun w0 => lower_any (s.extract 0 7) w0 (by simp; omega)
      rw [e7] at hlo
      cases hq : decide (lowL ((ns s).take 7) = docL)
      · have hb : ((strOfNums (lowL ((ns s).take 7))).toList == [100, 111, 99, 116, 121, 112, 101]) = false := by
          rw [toList_beq, ns_str (lowL_byts ((ns_byts s).take 7))]; exact hq
        have ho : openOf (ns s) = (2, 0) := by unfold openOf; rw [if_neg (by simp [hd]), if_neg (of_decide_eq_false hq)]
        have HO := Lib.hid ho
        have HLO := Lib.hid hlo
        clear hhp e2 e7 hd hq ho hlo hl
        go_enter Try.func8, Try.ntmps8
        go_wp2_with (first
          | (go_at_call 20; refine (HP.out _).mono ?_; rintro e w' ⟨rfl, rfl⟩)
          | (go_at_call 21; refine (HLO.out _).mono ?_; rintro e w1 ⟨rfl, hb1⟩))
        go_ret2
        exact ⟨ret_22 HO.out.symm, hb1⟩
      · have hb : ((strOfNums (lowL ((ns s).take 7))).toList == [100, 111, 99, 116, 121, 112, 101]) = true := by
          rw [toList_beq, ns_str (lowL_byts ((ns_byts s).take 7))]; exact hq
        have ho : openOf (ns s) = (1, 7) := by unfold openOf; rw [if_neg (by simp [hd]), if_pos (of_decide_eq_true hq)]
        have HO := Lib.hid ho
        have HLO := Lib.hid hlo
        clear hhp e2 e7 hd hq ho hlo hl
        go_enter Try.func8, Try.ntmps8
        go_wp2_with (first
          | (go_at_call 20; refine (HP.out _).mono ?_; rintro e w' ⟨rfl, rfl⟩)
          | (go_at_call 21; refine (HLO.out _).mono ?_; rintro e w1 ⟨rfl, hb1⟩))
        go_ret2
        exact ⟨ret_22 HO.out.symm, hb1⟩
    · have h1 : decide ((7 : Int) ≤ (s.size : Int)) = false := by simp; omega
      have ho : openOf (ns s) = (2, 0) := by
        unfold openOf
        rw [if_neg (by simp [hd]), if_neg (fun h => by have := congrArg List.length h; simp [lowL, docL] at this; omega)]
      have HO := Lib.hid ho
      clear hhp e2 hd ho hl
      go_enter Try.func8, Try.ntmps8
      go_wp2_with (go_at_call 20; refine (HP.out _).mono ?_; rintro e w' ⟨rfl, rfl⟩)
      go_ret2
      exact ⟨ret_22 HO.out.symm, Below.refl _ _⟩
  · rw [hd] at hhp
    have HP := Lib.hid hhp
    have ho : openOf (ns s) = (0, 2) := by unfold openOf; rw [if_pos hd]
    have HO := Lib.hid ho
    clear hhp e2 hd ho hl
    go_enter Try.func8, Try.ntmps8
    go_wp2_with (go_at_call 20; refine (HP.out _).mono ?_; rintro e w' ⟨rfl, rfl⟩)
    go_ret2
    exact ⟨ret_22 HO.out.symm, Below.refl _ _⟩

end Go.Proofs.Ytoccmpaonicnnaa
