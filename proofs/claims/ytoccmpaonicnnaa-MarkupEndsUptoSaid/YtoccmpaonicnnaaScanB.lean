/- markup.Scanner: ending, open, by their ways. (written by gen_scan.py) -/
import Derived.Test.YtoccmpaonicnnaaScan
namespace Go.Proofs.Ytoccmpaonicnnaa
open Go.RowKit
set_option linter.unusedVariables false
set_option linter.unusedSimpArgs false

set_option maxHeartbeats 1000000 in
theorem ending_1t (D : Nat) (k : Int) (ao : Option Addr) (cap : Nat) (t : Int) (o : Bool) (l : List Int) (w : World) (hD : ScAt w D k (.slice ao l.length cap) t o) (hl : SlI .i32 w.heap.size w (.slice ao l.length cap) l) (hx : l.length ≤ 1099511627776) (hn : l.length = 1)  (h0 : Hid (endsL [62] l = true)) :
    Calls Try.prog 29 #[.pointer (some ⟨D, 0, none⟩)] w fun e w' => e = .returned (.int .i64 1) ∧ Below w.heap.size w w' := by
  obtain ⟨c0, c1, c2, c3, c4, f1, f2, f4⟩ := hD.cells
  have hb := Below.refl w.heap.size w
  have q1 : ((l.length : Int) == 1) = true := by simp [hn]
  have q2 : ((l.length : Int) == 2) = false := by simp [hn]
  have HN := Lib.hid hn
  clear hn
  go_enter Try.func29, Try.ntmps29
  go_wp2_with fail
  refine (ends_is D k _ t o l _ [62] _ _ hD hl hx lit_gt (by simp) h0).mono ?_
  rintro e w1 ⟨rfl, ⟨hD1, hl1⟩, hb1⟩
  have hB1 := bnext hb hb1
  obtain ⟨c0, c1, c2, c3, c4, f1, f2, f4⟩ := hD1.cells
  go_wp2
  go_ret
  exact ⟨rfl, hB1⟩

set_option maxHeartbeats 1000000 in
theorem ending_1c (D : Nat) (k : Int) (ao : Option Addr) (cap : Nat) (t : Int) (o : Bool) (l : List Int) (w : World) (hD : ScAt w D k (.slice ao l.length cap) t o) (hl : SlI .i32 w.heap.size w (.slice ao l.length cap) l) (hx : l.length ≤ 1099511627776) (hn : l.length = 1)  (h0 : Hid (endsL [62] l = false)) (h1 : Hid (endsL [45, 45, 62] l = true)) :
    Calls Try.prog 29 #[.pointer (some ⟨D, 0, none⟩)] w fun e w' => e = .returned (.int .i64 3) ∧ Below w.heap.size w w' := by
  obtain ⟨c0, c1, c2, c3, c4, f1, f2, f4⟩ := hD.cells
  have hb := Below.refl w.heap.size w
  have q1 : ((l.length : Int) == 1) = true := by simp [hn]
  have q2 : ((l.length : Int) == 2) = false := by simp [hn]
  have HN := Lib.hid hn
  clear hn
  go_enter Try.func29, Try.ntmps29
  go_wp2_with fail
  refine (ends_is D k _ t o l _ [62] _ _ hD hl hx lit_gt (by simp) h0).mono ?_
  rintro e w1 ⟨rfl, ⟨hD1, hl1⟩, hb1⟩
  have hB1 := bnext hb hb1
  obtain ⟨c0, c1, c2, c3, c4, f1, f2, f4⟩ := hD1.cells
  go_wp2_with fail
  refine (ends_is D k _ t o l _ [45, 45, 62] _ _ hD1 hl1 hx lit_ddgt (by simp) h1).mono ?_
  rintro e w2 ⟨rfl, ⟨hD2, hl2⟩, hb2⟩
  have hB2 := bnext hB1 hb2
  obtain ⟨c0, c1, c2, c3, c4, f1, f2, f4⟩ := hD2.cells
  go_wp2
  go_ret
  exact ⟨rfl, hB2⟩

set_option maxHeartbeats 1000000 in
theorem ending_1d (D : Nat) (k : Int) (ao : Option Addr) (cap : Nat) (t : Int) (o : Bool) (l : List Int) (w : World) (hD : ScAt w D k (.slice ao l.length cap) t o) (hl : SlI .i32 w.heap.size w (.slice ao l.length cap) l) (hx : l.length ≤ 1099511627776) (hn : l.length = 1)  (h0 : Hid (endsL [62] l = false)) (h1 : Hid (endsL [45, 45, 62] l = false)) (h2 : Hid (endsL [45, 45, 33, 62] l = true)) :
    Calls Try.prog 29 #[.pointer (some ⟨D, 0, none⟩)] w fun e w' => e = .returned (.int .i64 4) ∧ Below w.heap.size w w' := by
  obtain ⟨c0, c1, c2, c3, c4, f1, f2, f4⟩ := hD.cells
  have hb := Below.refl w.heap.size w
  have q1 : ((l.length : Int) == 1) = true := by simp [hn]
  have q2 : ((l.length : Int) == 2) = false := by simp [hn]
  have HN := Lib.hid hn
  clear hn
  go_enter Try.func29, Try.ntmps29
  go_wp2_with fail
  refine (ends_is D k _ t o l _ [62] _ _ hD hl hx lit_gt (by simp) h0).mono ?_
  rintro e w1 ⟨rfl, ⟨hD1, hl1⟩, hb1⟩
  have hB1 := bnext hb hb1
  obtain ⟨c0, c1, c2, c3, c4, f1, f2, f4⟩ := hD1.cells
  go_wp2_with fail
  refine (ends_is D k _ t o l _ [45, 45, 62] _ _ hD1 hl1 hx lit_ddgt (by simp) h1).mono ?_
  rintro e w2 ⟨rfl, ⟨hD2, hl2⟩, hb2⟩
  have hB2 := bnext hB1 hb2
  obtain ⟨c0, c1, c2, c3, c4, f1, f2, f4⟩ := hD2.cells
  go_wp2_with fail
  refine (ends_is D k _ t o l _ [45, 45, 33, 62] _ _ hD2 hl2 hx lit_ddxgt (by simp) h2).mono ?_
  rintro e w3 ⟨rfl, ⟨hD3, hl3⟩, hb3⟩
  have hB3 := bnext hB2 hb3
  obtain ⟨c0, c1, c2, c3, c4, f1, f2, f4⟩ := hD3.cells
  go_wp2
  go_ret
  exact ⟨rfl, hB3⟩

set_option maxHeartbeats 1000000 in
theorem ending_1f (D : Nat) (k : Int) (ao : Option Addr) (cap : Nat) (t : Int) (o : Bool) (l : List Int) (w : World) (hD : ScAt w D k (.slice ao l.length cap) t o) (hl : SlI .i32 w.heap.size w (.slice ao l.length cap) l) (hx : l.length ≤ 1099511627776) (hn : l.length = 1)  (h0 : Hid (endsL [62] l = false)) (h1 : Hid (endsL [45, 45, 62] l = false)) (h2 : Hid (endsL [45, 45, 33, 62] l = false)) :
    Calls Try.prog 29 #[.pointer (some ⟨D, 0, none⟩)] w fun e w' => e = .returned (.int .i64 0) ∧ Below w.heap.size w w' := by
  obtain ⟨c0, c1, c2, c3, c4, f1, f2, f4⟩ := hD.cells
  have hb := Below.refl w.heap.size w
  have q1 : ((l.length : Int) == 1) = true := by simp [hn]
  have q2 : ((l.length : Int) == 2) = false := by simp [hn]
  have HN := Lib.hid hn
  clear hn
  go_enter Try.func29, Try.ntmps29
  go_wp2_with fail
  refine (ends_is D k _ t o l _ [62] _ _ hD hl hx lit_gt (by simp) h0).mono ?_
  rintro e w1 ⟨rfl, ⟨hD1, hl1⟩, hb1⟩
  have hB1 := bnext hb hb1
  obtain ⟨c0, c1, c2, c3, c4, f1, f2, f4⟩ := hD1.cells
  go_wp2_with fail
  refine (ends_is D k _ t o l _ [45, 45, 62] _ _ hD1 hl1 hx lit_ddgt (by simp) h1).mono ?_
  rintro e w2 ⟨rfl, ⟨hD2, hl2⟩, hb2⟩
  have hB2 := bnext hB1 hb2
  obtain ⟨c0, c1, c2, c3, c4, f1, f2, f4⟩ := hD2.cells
  go_wp2_with fail
  refine (ends_is D k _ t o l _ [45, 45, 33, 62] _ _ hD2 hl2 hx lit_ddxgt (by simp) h2).mono ?_
  rintro e w3 ⟨rfl, ⟨hD3, hl3⟩, hb3⟩
  have hB3 := bnext hB2 hb3
  obtain ⟨c0, c1, c2, c3, c4, f1, f2, f4⟩ := hD3.cells
  go_wp2
  go_ret
  exact ⟨rfl, hB3⟩

set_option maxHeartbeats 1000000 in
theorem ending_2t (D : Nat) (k : Int) (ao : Option Addr) (cap : Nat) (t : Int) (o : Bool) (l : List Int) (w : World) (hD : ScAt w D k (.slice ao l.length cap) t o) (hl : SlI .i32 w.heap.size w (.slice ao l.length cap) l) (hx : l.length ≤ 1099511627776) (hn : l.length = 2)  (h0 : Hid (endsL [45, 62] l = true)) :
    Calls Try.prog 29 #[.pointer (some ⟨D, 0, none⟩)] w fun e w' => e = .returned (.int .i64 2) ∧ Below w.heap.size w w' := by
  obtain ⟨c0, c1, c2, c3, c4, f1, f2, f4⟩ := hD.cells
  have hb := Below.refl w.heap.size w
  have q1 : ((l.length : Int) == 1) = false := by simp [hn]
  have q2 : ((l.length : Int) == 2) = true := by simp [hn]
  have HN := Lib.hid hn
  clear hn
  go_enter Try.func29, Try.ntmps29
  go_wp2_with fail
  refine (ends_is D k _ t o l _ [45, 62] _ _ hD hl hx lit_dgt (by simp) h0).mono ?_
  rintro e w1 ⟨rfl, ⟨hD1, hl1⟩, hb1⟩
  have hB1 := bnext hb hb1
  obtain ⟨c0, c1, c2, c3, c4, f1, f2, f4⟩ := hD1.cells
  go_wp2
  go_ret
  exact ⟨rfl, hB1⟩

set_option maxHeartbeats 1000000 in
theorem ending_2c (D : Nat) (k : Int) (ao : Option Addr) (cap : Nat) (t : Int) (o : Bool) (l : List Int) (w : World) (hD : ScAt w D k (.slice ao l.length cap) t o) (hl : SlI .i32 w.heap.size w (.slice ao l.length cap) l) (hx : l.length ≤ 1099511627776) (hn : l.length = 2)  (h0 : Hid (endsL [45, 62] l = false)) (h1 : Hid (endsL [45, 45, 62] l = true)) :
    Calls Try.prog 29 #[.pointer (some ⟨D, 0, none⟩)] w fun e w' => e = .returned (.int .i64 3) ∧ Below w.heap.size w w' := by
  obtain ⟨c0, c1, c2, c3, c4, f1, f2, f4⟩ := hD.cells
  have hb := Below.refl w.heap.size w
  have q1 : ((l.length : Int) == 1) = false := by simp [hn]
  have q2 : ((l.length : Int) == 2) = true := by simp [hn]
  have HN := Lib.hid hn
  clear hn
  go_enter Try.func29, Try.ntmps29
  go_wp2_with fail
  refine (ends_is D k _ t o l _ [45, 62] _ _ hD hl hx lit_dgt (by simp) h0).mono ?_
  rintro e w1 ⟨rfl, ⟨hD1, hl1⟩, hb1⟩
  have hB1 := bnext hb hb1
  obtain ⟨c0, c1, c2, c3, c4, f1, f2, f4⟩ := hD1.cells
  go_wp2_with fail
  refine (ends_is D k _ t o l _ [45, 45, 62] _ _ hD1 hl1 hx lit_ddgt (by simp) h1).mono ?_
  rintro e w2 ⟨rfl, ⟨hD2, hl2⟩, hb2⟩
  have hB2 := bnext hB1 hb2
  obtain ⟨c0, c1, c2, c3, c4, f1, f2, f4⟩ := hD2.cells
  go_wp2
  go_ret
  exact ⟨rfl, hB2⟩

set_option maxHeartbeats 1000000 in
theorem ending_2d (D : Nat) (k : Int) (ao : Option Addr) (cap : Nat) (t : Int) (o : Bool) (l : List Int) (w : World) (hD : ScAt w D k (.slice ao l.length cap) t o) (hl : SlI .i32 w.heap.size w (.slice ao l.length cap) l) (hx : l.length ≤ 1099511627776) (hn : l.length = 2)  (h0 : Hid (endsL [45, 62] l = false)) (h1 : Hid (endsL [45, 45, 62] l = false)) (h2 : Hid (endsL [45, 45, 33, 62] l = true)) :
    Calls Try.prog 29 #[.pointer (some ⟨D, 0, none⟩)] w fun e w' => e = .returned (.int .i64 4) ∧ Below w.heap.size w w' := by
  obtain ⟨c0, c1, c2, c3, c4, f1, f2, f4⟩ := hD.cells
  have hb := Below.refl w.heap.size w
  have q1 : ((l.length : Int) == 1) = false := by simp [hn]
  have q2 : ((l.length : Int) == 2) = true := by simp [hn]
  have HN := Lib.hid hn
  clear hn
  go_enter Try.func29, Try.ntmps29
  go_wp2_with fail
  refine (ends_is D k _ t o l _ [45, 62] _ _ hD hl hx lit_dgt (by simp) h0).mono ?_
  rintro e w1 ⟨rfl, ⟨hD1, hl1⟩, hb1⟩
  have hB1 := bnext hb hb1
  obtain ⟨c0, c1, c2, c3, c4, f1, f2, f4⟩ := hD1.cells
  go_wp2_with fail
  refine (ends_is D k _ t o l _ [45, 45, 62] _ _ hD1 hl1 hx lit_ddgt (by simp) h1).mono ?_
  rintro e w2 ⟨rfl, ⟨hD2, hl2⟩, hb2⟩
  have hB2 := bnext hB1 hb2
  obtain ⟨c0, c1, c2, c3, c4, f1, f2, f4⟩ := hD2.cells
  go_wp2_with fail
  refine (ends_is D k _ t o l _ [45, 45, 33, 62] _ _ hD2 hl2 hx lit_ddxgt (by simp) h2).mono ?_
  rintro e w3 ⟨rfl, ⟨hD3, hl3⟩, hb3⟩
  have hB3 := bnext hB2 hb3
  obtain ⟨c0, c1, c2, c3, c4, f1, f2, f4⟩ := hD3.cells
  go_wp2
  go_ret
  exact ⟨rfl, hB3⟩

set_option maxHeartbeats 1000000 in
theorem ending_2f (D : Nat) (k : Int) (ao : Option Addr) (cap : Nat) (t : Int) (o : Bool) (l : List Int) (w : World) (hD : ScAt w D k (.slice ao l.length cap) t o) (hl : SlI .i32 w.heap.size w (.slice ao l.length cap) l) (hx : l.length ≤ 1099511627776) (hn : l.length = 2)  (h0 : Hid (endsL [45, 62] l = false)) (h1 : Hid (endsL [45, 45, 62] l = false)) (h2 : Hid (endsL [45, 45, 33, 62] l = false)) :
    Calls Try.prog 29 #[.pointer (some ⟨D, 0, none⟩)] w fun e w' => e = .returned (.int .i64 0) ∧ Below w.heap.size w w' := by
  obtain ⟨c0, c1, c2, c3, c4, f1, f2, f4⟩ := hD.cells
  have hb := Below.refl w.heap.size w
  have q1 : ((l.length : Int) == 1) = false := by simp [hn]
  have q2 : ((l.length : Int) == 2) = true := by simp [hn]
  have HN := Lib.hid hn
  clear hn
  go_enter Try.func29, Try.ntmps29
  go_wp2_with fail
  refine (ends_is D k _ t o l _ [45, 62] _ _ hD hl hx lit_dgt (by simp) h0).mono ?_
  rintro e w1 ⟨rfl, ⟨hD1, hl1⟩, hb1⟩
  have hB1 := bnext hb hb1
  obtain ⟨c0, c1, c2, c3, c4, f1, f2, f4⟩ := hD1.cells
  go_wp2_with fail
  refine (ends_is D k _ t o l _ [45, 45, 62] _ _ hD1 hl1 hx lit_ddgt (by simp) h1).mono ?_
  rintro e w2 ⟨rfl, ⟨hD2, hl2⟩, hb2⟩
  have hB2 := bnext hB1 hb2
  obtain ⟨c0, c1, c2, c3, c4, f1, f2, f4⟩ := hD2.cells
  go_wp2_with fail
  refine (ends_is D k _ t o l _ [45, 45, 33, 62] _ _ hD2 hl2 hx lit_ddxgt (by simp) h2).mono ?_
  rintro e w3 ⟨rfl, ⟨hD3, hl3⟩, hb3⟩
  have hB3 := bnext hB2 hb3
  obtain ⟨c0, c1, c2, c3, c4, f1, f2, f4⟩ := hD3.cells
  go_wp2
  go_ret
  exact ⟨rfl, hB3⟩

set_option maxHeartbeats 1000000 in
theorem ending_nc (D : Nat) (k : Int) (ao : Option Addr) (cap : Nat) (t : Int) (o : Bool) (l : List Int) (w : World) (hD : ScAt w D k (.slice ao l.length cap) t o) (hl : SlI .i32 w.heap.size w (.slice ao l.length cap) l) (hx : l.length ≤ 1099511627776) (hn1 : ¬ l.length = 1) (hn2 : ¬ l.length = 2)  (h0 : Hid (endsL [45, 45, 62] l = true)) :
    Calls Try.prog 29 #[.pointer (some ⟨D, 0, none⟩)] w fun e w' => e = .returned (.int .i64 3) ∧ Below w.heap.size w w' := by
  obtain ⟨c0, c1, c2, c3, c4, f1, f2, f4⟩ := hD.cells
  have hb := Below.refl w.heap.size w
  have q1 : ((l.length : Int) == 1) = false := by rw [beq_eq_false_iff_ne]; omega
  have q2 : ((l.length : Int) == 2) = false := by rw [beq_eq_false_iff_ne]; omega
  clear hn1 hn2
  go_enter Try.func29, Try.ntmps29
  go_wp2_with fail
  refine (ends_is D k _ t o l _ [45, 45, 62] _ _ hD hl hx lit_ddgt (by simp) h0).mono ?_
  rintro e w1 ⟨rfl, ⟨hD1, hl1⟩, hb1⟩
  have hB1 := bnext hb hb1
  obtain ⟨c0, c1, c2, c3, c4, f1, f2, f4⟩ := hD1.cells
  go_wp2
  go_ret
  exact ⟨rfl, hB1⟩

set_option maxHeartbeats 1000000 in
theorem ending_nd (D : Nat) (k : Int) (ao : Option Addr) (cap : Nat) (t : Int) (o : Bool) (l : List Int) (w : World) (hD : ScAt w D k (.slice ao l.length cap) t o) (hl : SlI .i32 w.heap.size w (.slice ao l.length cap) l) (hx : l.length ≤ 1099511627776) (hn1 : ¬ l.length = 1) (hn2 : ¬ l.length = 2)  (h0 : Hid (endsL [45, 45, 62] l = false)) (h1 : Hid (endsL [45, 45, 33, 62] l = true)) :
    Calls Try.prog 29 #[.pointer (some ⟨D, 0, none⟩)] w fun e w' => e = .returned (.int .i64 4) ∧ Below w.heap.size w w' := by
  obtain ⟨c0, c1, c2, c3, c4, f1, f2, f4⟩ := hD.cells
  have hb := Below.refl w.heap.size w
  have q1 : ((l.length : Int) == 1) = false := by rw [beq_eq_false_iff_ne]; omega
  have q2 : ((l.length : Int) == 2) = false := by rw [beq_eq_false_iff_ne]; omega
  clear hn1 hn2
  go_enter Try.func29, Try.ntmps29
  go_wp2_with fail
  refine (ends_is D k _ t o l _ [45, 45, 62] _ _ hD hl hx lit_ddgt (by simp) h0).mono ?_
  rintro e w1 ⟨rfl, ⟨hD1, hl1⟩, hb1⟩
  have hB1 := bnext hb hb1
  obtain ⟨c0, c1, c2, c3, c4, f1, f2, f4⟩ := hD1.cells
  go_wp2_with fail
  refine (ends_is D k _ t o l _ [45, 45, 33, 62] _ _ hD1 hl1 hx lit_ddxgt (by simp) h1).mono ?_
  rintro e w2 ⟨rfl, ⟨hD2, hl2⟩, hb2⟩
  have hB2 := bnext hB1 hb2
  obtain ⟨c0, c1, c2, c3, c4, f1, f2, f4⟩ := hD2.cells
  go_wp2
  go_ret
  exact ⟨rfl, hB2⟩

set_option maxHeartbeats 1000000 in
theorem ending_nf (D : Nat) (k : Int) (ao : Option Addr) (cap : Nat) (t : Int) (o : Bool) (l : List Int) (w : World) (hD : ScAt w D k (.slice ao l.length cap) t o) (hl : SlI .i32 w.heap.size w (.slice ao l.length cap) l) (hx : l.length ≤ 1099511627776) (hn1 : ¬ l.length = 1) (hn2 : ¬ l.length = 2)  (h0 : Hid (endsL [45, 45, 62] l = false)) (h1 : Hid (endsL [45, 45, 33, 62] l = false)) :
    Calls Try.prog 29 #[.pointer (some ⟨D, 0, none⟩)] w fun e w' => e = .returned (.int .i64 0) ∧ Below w.heap.size w w' := by
  obtain ⟨c0, c1, c2, c3, c4, f1, f2, f4⟩ := hD.cells
  have hb := Below.refl w.heap.size w
  have q1 : ((l.length : Int) == 1) = false := by rw [beq_eq_false_iff_ne]; omega
  have q2 : ((l.length : Int) == 2) = false := by rw [beq_eq_false_iff_ne]; omega
  clear hn1 hn2
  go_enter Try.func29, Try.ntmps29
  go_wp2_with fail
  refine (ends_is D k _ t o l _ [45, 45, 62] _ _ hD hl hx lit_ddgt (by simp) h0).mono ?_
  rintro e w1 ⟨rfl, ⟨hD1, hl1⟩, hb1⟩
  have hB1 := bnext hb hb1
  obtain ⟨c0, c1, c2, c3, c4, f1, f2, f4⟩ := hD1.cells
  go_wp2_with fail
  refine (ends_is D k _ t o l _ [45, 45, 33, 62] _ _ hD1 hl1 hx lit_ddxgt (by simp) h1).mono ?_
  rintro e w2 ⟨rfl, ⟨hD2, hl2⟩, hb2⟩
  have hB2 := bnext hB1 hb2
  obtain ⟨c0, c1, c2, c3, c4, f1, f2, f4⟩ := hD2.cells
  go_wp2
  go_ret
  exact ⟨rfl, hB2⟩

theorem ending_any (D : Nat) (k : Int) (tv : Value) (t : Int) (o : Bool) (l : List Int) (w : World) (hD : ScAt w D k tv t o) (hl : SlI .i32 w.heap.size w tv l) (hx : l.length ≤ 1099511627776) :
    Calls Try.prog 29 #[.pointer (some ⟨D, 0, none⟩)] w fun e w' => e = .returned (.int .i64 (endN l : Nat)) ∧ Below w.heap.size w w' := by
  have hl0 := hl
  obtain ⟨ao, cap, rfl, hcap, hn, hr⟩ := hl0
  clear hn hr hcap
  have hE : endN l = if l.length = 1 ∧ endsL [62] l = true then 1 else if l.length = 2 ∧ endsL [45, 62] l = true then 2 else if endsL [45, 45, 62] l = true then 3 else if endsL [45, 45, 33, 62] l = true then 4 else 0 := rfl
  rw [hE]
  by_cases n1 : l.length = 1
  · have n2 : ¬ l.length = 2 := by omega
    cases ha : endsL [62] l
    · cases hc : endsL [45, 45, 62] l
      · cases hd : endsL [45, 45, 33, 62] l
        · simp only [n1, n2, true_and, false_and, Bool.false_eq_true, if_false]; exact ending_1f D k ao cap t o l w hD hl hx n1 ha hc hd
        · simp only [n1, n2, true_and, false_and, Bool.false_eq_true, if_false, if_true]; exact ending_1d D k ao cap t o l w hD hl hx n1 ha hc hd
      · simp only [n1, n2, true_and, false_and, Bool.false_eq_true, if_false, if_true]; exact ending_1c D k ao cap t o l w hD hl hx n1 ha hc
    · simp only [n1, true_and, if_true]; exact ending_1t D k ao cap t o l w hD hl hx n1 ha
  · by_cases n2 : l.length = 2
    · cases hb : endsL [45, 62] l
      · cases hc : endsL [45, 45, 62] l
        · cases hd : endsL [45, 45, 33, 62] l
          · simp only [n1, n2, true_and, false_and, Bool.false_eq_true, if_false]; exact ending_2f D k ao cap t o l w hD hl hx n2 hb hc hd
          · simp only [n1, n2, true_and, false_and, Bool.false_eq_true, if_false, if_true]; exact ending_2d D k ao cap t o l w hD hl hx n2 hb hc hd
        · simp only [n1, n2, true_and, false_and, Bool.false_eq_true, if_false, if_true]; exact ending_2c D k ao cap t o l w hD hl hx n2 hb hc
      · simp only [n1, n2, true_and, false_and, Bool.false_eq_true, if_false, if_true]; exact ending_2t D k ao cap t o l w hD hl hx n2 hb
    · cases hc : endsL [45, 45, 62] l
      · cases hd : endsL [45, 45, 33, 62] l
        · simp only [n1, n2, false_and, Bool.false_eq_true, if_false]; exact ending_nf D k ao cap t o l w hD hl hx n1 n2 hc hd
        · simp only [n1, n2, false_and, Bool.false_eq_true, if_false, if_true]; exact ending_nd D k ao cap t o l w hD hl hx n1 n2 hc hd
      · simp only [n1, n2, false_and, Bool.false_eq_true, if_false, if_true]; exact ending_nc D k ao cap t o l w hD hl hx n1 n2 hc

end Go.Proofs.Ytoccmpaonicnnaa
