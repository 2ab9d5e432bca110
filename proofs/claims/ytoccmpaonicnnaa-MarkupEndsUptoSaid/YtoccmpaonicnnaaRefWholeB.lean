/- sieveref09.Whole. -/
import Derived.Test.YtoccmpaonicnnaaRefWhole
namespace Go.Proofs.Ytoccmpaonicnnaa
open Go.RowKit
set_option linter.unusedVariables false
set_option linter.unusedSimpArgs false

theorem refwhole_bad (k : Int) (s : ByteArray) (w : World) (h : k < 0 ∨ 2 < k) :
    Calls Try.prog 12 #[.int .i64 k, .string s] w fun e w' => e = .returned (.tuple #[.string ByteArray.empty, .int .i64 0, .bool false, .int .i64 1]) ∧ w = w' := by
  rcases h with h | h
  · go_enter Try.func12, Try.ntmps12
    go_wp2
    refine bodyPost_ret (v := .tuple #[.string ByteArray.empty, .int .i64 0, .bool false, .int .i64 1]) (by simp [results, Try.results12, go_sem]; first | done | rfl) rfl ⟨rfl, rfl⟩
  · have h' : ¬ k < 0 := by omega
    go_enter Try.func12, Try.ntmps12
    go_wp2
    refine bodyPost_ret (v := .tuple #[.string ByteArray.empty, .int .i64 0, .bool false, .int .i64 1]) (by simp [results, Try.results12, go_sem]; first | done | rfl) rfl ⟨rfl, rfl⟩

/-- what Whole says, as an ending -/
def WholeEnd (k : Int) (xs : List Int) : Ending := .returned (.tuple #[.string (strOfNums (wholeR k xs).1), .int .i64 ((wholeR k xs).2.1 : Nat), .bool (wholeR k xs).2.2, .int .i64 0])
theorem wholeEnd_closed {k : Int} {s : ByteArray} {n : Nat} {xs : List Int} (hx : xs = ns s) (h : ClosedAt k (ns s) n) (t : ByteArray) (ht : strOfNums (mendOf (ns t)) = strOfNums (if k = 1 then [] else mendOf ((ns s).take (n - tailB k ((ns s).take n))))) :
    Ending.returned (.tuple #[.string (strOfNums (mendOf (ns t))), .int .i64 (n : Nat), .bool true, .int .i64 0]) = WholeEnd k (ns s) := by
  unfold WholeEnd
  rw [whole_closed (ns_byts s) h, ht]
theorem wholeEnd_never {k : Int} {s : ByteArray} (h : NeverC k (ns s)) (t : ByteArray) (ht : strOfNums (mendOf (ns t)) = strOfNums (if k = 1 then [] else mendOf ((ns s).take ((ns s).length - openN k (ns s))))) :
    Ending.returned (.tuple #[.string (strOfNums (mendOf (ns t))), .int .i64 (s.size : Nat), .bool false, .int .i64 0]) = WholeEnd k (ns s) := by
  unfold WholeEnd
  rw [whole_never (ns_byts s) h, ht, ns_length]
theorem ns_to (s : ByteArray) (m : Nat) : ns (s.extract 0 m) = (ns s).take m := by rw [ns_extract]; rfl

/-- closed -/
theorem refwhole_closed (k : Int) (s : ByteArray) (w : World) (k0 : 0 ≤ k) (k2 : k ≤ 2) (hx : s.size ≤ 274877906944) (to n : Nat) (hto : to ≤ s.size)
    (hend : ∀ w0, Calls Try.prog 24 #[.int .i64 k, .string s] w0 fun e w' => e = .returned (.tuple #[.int .i64 (to : Nat), .int .i64 (n : Nat), .bool true]) ∧ w0 = w')
    (he : ∀ t : ByteArray, strOfNums (mendOf (ns t)) = strOfNums (if k = 1 then [] else mendOf ((ns s).take to)) → Ending.returned (.tuple #[.string (strOfNums (mendOf (ns t))), .int .i64 (n : Nat), .bool true, .int .i64 0]) = WholeEnd k (ns s)) :
    Calls Try.prog 12 #[.int .i64 k, .string s] w fun e w' => e = WholeEnd k (ns s) ∧ Below w.heap.size w w' := by
  have h5 := fun w0 => run_slice_string_to (P := Try.prog) w0 9 s to hto Try.underlying9
  have hsz : (s.extract 0 to).size ≤ 274877906944 := by simp; omega
  have HE := Lib.hid he
  have HEND := Lib.hid hend
  have HSZ := Lib.hid hsz
  clear he hend hsz
  rcases (show k = 0 ∨ k = 1 ∨ k = 2 by omega) with rfl | rfl | rfl
  · have hf := HE.out (s.extract 0 to) (by rw [ns_to, if_neg (by omega)])
    have HF := Lib.hid hf
    clear hf
    go_enter Try.func12, Try.ntmps12
    go_wp2_with fail
    refine (HEND.out _).mono ?_
    rintro e w' ⟨rfl, rfl⟩
    go_wp2_with fail
    refine (refmend_any _ _ HSZ.out).mono ?_
    rintro e w' ⟨rfl, hb⟩
    go_wp2
    refine bodyPost_ret (v := .tuple #[.string (strOfNums (mendOf (ns (s.extract 0 to)))), .int .i64 (n : Nat), .bool true, .int .i64 0]) (by simp [results, Try.results12, go_sem]; first | done | rfl) rfl ⟨HF.out, hb⟩
  · have hf := HE.out ByteArray.empty (by rfl)
    have HF := Lib.hid hf
    clear hf
    go_enter Try.func12, Try.ntmps12
    go_wp2_with fail
    refine (HEND.out _).mono ?_
    rintro e w' ⟨rfl, rfl⟩
    go_wp2_with fail
    refine (refmend_any ByteArray.empty _ (by decide)).mono ?_
    rintro e w' ⟨rfl, hb⟩
    go_wp2
    refine bodyPost_ret (v := .tuple #[.string (strOfNums (mendOf (ns ByteArray.empty))), .int .i64 (n : Nat), .bool true, .int .i64 0]) (by simp [results, Try.results12, go_sem]; first | done | rfl) rfl ⟨HF.out, hb⟩
  · have hf := HE.out (s.extract 0 to) (by rw [ns_to, if_neg (by omega)])
    have HF := Lib.hid hf
    clear hf
    go_enter Try.func12, Try.ntmps12
    go_wp2_with fail
    refine (HEND.out _).mono ?_
    rintro e w' ⟨rfl, rfl⟩
    go_wp2_with fail
    refine (refmend_any _ _ HSZ.out).mono ?_
    rintro e w' ⟨rfl, hb⟩
    go_wp2
    refine bodyPost_ret (v := .tuple #[.string (strOfNums (mendOf (ns (s.extract 0 to)))), .int .i64 (n : Nat), .bool true, .int .i64 0]) (by simp [results, Try.results12, go_sem]; first | done | rfl) rfl ⟨HF.out, hb⟩

/-- not closed, of the other kinds -/
theorem refwhole_never (k : Int) (s : ByteArray) (w : World) (k0 : 1 ≤ k) (k2 : k ≤ 2) (hx : s.size ≤ 274877906944)
    (hend : ∀ w0, Calls Try.prog 24 #[.int .i64 k, .string s] w0 fun e w' => e = .returned (.tuple #[.int .i64 (s.size : Nat), .int .i64 (s.size : Nat), .bool false]) ∧ w0 = w')
    (he : ∀ t : ByteArray, strOfNums (mendOf (ns t)) = strOfNums (if k = 1 then [] else mendOf ((ns s).take ((ns s).length - openN k (ns s)))) → Ending.returned (.tuple #[.string (strOfNums (mendOf (ns t))), .int .i64 (s.size : Nat), .bool false, .int .i64 0]) = WholeEnd k (ns s)) :
    Calls Try.prog 12 #[.int .i64 k, .string s] w fun e w' => e = WholeEnd k (ns s) ∧ Below w.heap.size w w' := by
  have hself : s.extract 0 s.size = s := ns_inj (by rw [ns_to, ← ns_length, List.take_length])
  have h5 := fun w0 => run_slice_string_to (P := Try.prog) w0 9 s s.size (Nat.le_refl _) Try.underlying9
  rw [hself] at h5
  clear hself
  have hl := ns_length s
  have HE := Lib.hid he
  have HEND := Lib.hid hend
  clear he hend
  rcases (show k = 1 ∨ k = 2 by omega) with rfl | rfl
  · have hf := HE.out ByteArray.empty (by rfl)
    have HF := Lib.hid hf
    clear hf
    go_enter Try.func12, Try.ntmps12
    go_wp2_with fail
    refine (HEND.out _).mono ?_
    rintro e w' ⟨rfl, rfl⟩
    go_wp2_with fail
    refine (refmend_any ByteArray.empty _ (by decide)).mono ?_
    rintro e w' ⟨rfl, hb⟩
    go_wp2
    refine bodyPost_ret (v := .tuple #[.string (strOfNums (mendOf (ns ByteArray.empty))), .int .i64 (s.size : Nat), .bool false, .int .i64 0]) (by simp [results, Try.results12, go_sem]; first | done | rfl) rfl ⟨HF.out, hb⟩
  · have hf := HE.out s (by rw [if_neg (by omega)]; unfold openN; rw [if_pos (by omega), Nat.sub_zero, List.take_length])
    have HF := Lib.hid hf
    clear hf
    go_enter Try.func12, Try.ntmps12
    go_wp2_with fail
    refine (HEND.out _).mono ?_
    rintro e w' ⟨rfl, rfl⟩
    go_wp2_with fail
    refine (refmend_any _ _ hx).mono ?_
    rintro e w' ⟨rfl, hb⟩
    go_wp2
    refine bodyPost_ret (v := .tuple #[.string (strOfNums (mendOf (ns s))), .int .i64 (s.size : Nat), .bool false, .int .i64 0]) (by simp [results, Try.results12, go_sem]; first | done | rfl) rfl ⟨HF.out, hb⟩

/-- not closed, a comment -/
theorem refwhole_open (s : ByteArray) (w : World) (hx : s.size ≤ 274877906944)
    (hend : ∀ w0, Calls Try.prog 24 #[.int .i64 0, .string s] w0 fun e w' => e = .returned (.tuple #[.int .i64 (s.size : Nat), .int .i64 (s.size : Nat), .bool false]) ∧ w0 = w')
    (he : ∀ t : ByteArray, strOfNums (mendOf (ns t)) = strOfNums (if (0 : Int) = 1 then [] else mendOf ((ns s).take ((ns s).length - openN 0 (ns s)))) → Ending.returned (.tuple #[.string (strOfNums (mendOf (ns t))), .int .i64 (s.size : Nat), .bool false, .int .i64 0]) = WholeEnd 0 (ns s)) :
    Calls Try.prog 12 #[.int .i64 0, .string s] w fun e w' => e = WholeEnd 0 (ns s) ∧ Below w.heap.size w w' := by
  have hself : s.extract 0 s.size = s := ns_inj (by rw [ns_to, ← ns_length, List.take_length])
  have h5 := fun w0 => run_slice_string_to (P := Try.prog) w0 9 s s.size (Nat.le_refl _) Try.underlying9
  rw [hself] at h5
  have hl := ns_length s
  have r3 : ∀ w0, Calls Try.prog 25 #[.string s, .string ⟨#[45, 45, 33]⟩] w0 fun e w' => e = .returned (.bool (endsL [45, 45, 33] (ns s))) ∧ w0 = w' := fun w0 => rends_any s ⟨#[45, 45, 33]⟩ w0 (by omega) (by decide)
  have r2 : ∀ w0, Calls Try.prog 25 #[.string s, .string ⟨#[45, 45]⟩] w0 fun e w' => e = .returned (.bool (endsL [45, 45] (ns s))) ∧ w0 = w' := fun w0 => rends_any s ⟨#[45, 45]⟩ w0 (by omega) (by decide)
  have r1 : ∀ w0, Calls Try.prog 25 #[.string s, .string ⟨#[45]⟩] w0 fun e w' => e = .returned (.bool (endsL [45] (ns s))) ∧ w0 = w' := fun w0 => rends_any s ⟨#[45]⟩ w0 (by omega) (by decide)
  have hft : ∀ m, m ≤ s.size → openN 0 (ns s) = m → Ending.returned (.tuple #[.string (strOfNums (mendOf (ns (s.extract 0 (s.size - m))))), .int .i64 (s.size : Nat), .bool false, .int .i64 0]) = WholeEnd 0 (ns s) := fun m h1 h2 => he _ (by rw [ns_to, if_neg (by omega), h2, hl])
  have hsub : ∀ m, (s.extract 0 m).size ≤ 274877906944 := fun m => by simp; omega
  have HL := Lib.hid hl
  have HE := Lib.hid hft
  have HEND := Lib.hid hend
  have HR3 := Lib.hid r3
  have HR2 := Lib.hid r2
  have HR1 := Lib.hid r1
  have HSUB := Lib.hid hsub
  clear he hend r3 r2 r1 hft hself hl hsub
  have rt : ∀ m, m ≤ s.size → ∀ w0, (Instr.slice 9 (.string s) none (some (.int .i64 ((s.size : Int) - (m : Nat)))) none).run Try.prog w0 = .ok (.string (s.extract 0 (s.size - m))) w0 := fun m hm w0 => by
    have := run_slice_string_to (P := Try.prog) w0 9 s (s.size - m) (by omega) Try.underlying9
    rw [show ((s.size - m : Nat) : Int) = (s.size : Int) - m by omega] at this
    exact this
  have HRT := Lib.hid rt
  clear rt
  cases h3 : endsL [45, 45, 33] (ns s)
  · cases h2 : endsL [45, 45] (ns s)
    · cases h1 : endsL [45] (ns s)
      · rw [h3] at HR3
        rw [h2] at HR2
        rw [h1] at HR1
        have hf := HE.out 0 (by omega) (by unfold openN; rw [if_neg (by simp), h3, h2, h1]; rfl)
        have HF := Lib.hid hf
        have hz : s.extract 0 (s.size - 0) = s := ns_inj (by rw [ns_to, Nat.sub_zero, ← ns_length, List.take_length])
        rw [hz] at HF
        clear hf h3 h2 h1 hz
        go_enter Try.func12, Try.ntmps12
        go_wp2_with fail
        refine (HEND.out _).mono ?_
        rintro e w' ⟨rfl, rfl⟩
        go_wp2_with fail
        refine (HR3.out _).mono ?_
        rintro e w' ⟨rfl, rfl⟩
        go_wp2_with fail
        refine (HR2.out _).mono ?_
        rintro e w' ⟨rfl, rfl⟩
        go_wp2_with fail
        refine (HR1.out _).mono ?_
        rintro e w' ⟨rfl, rfl⟩
        go_wp2_with fail
        refine (refmend_any _ _ hx).mono ?_
        rintro e w' ⟨rfl, hb⟩
        go_wp2
        refine bodyPost_ret (v := .tuple #[.string (strOfNums (mendOf (ns s))), .int .i64 (s.size : Nat), .bool false, .int .i64 0]) (by simp [results, Try.results12, go_sem]; first | done | rfl) rfl ⟨HF.out, hb⟩
      · rw [h3] at HR3
        rw [h2] at HR2
        rw [h1] at HR1
        have hlen : 1 ≤ s.size := by have := endsL_len h1; simp at this; rw [HL.out] at this; exact this
        have hf := HE.out 1 hlen (by unfold openN; rw [if_neg (by simp), h3, h2, h1]; rfl)
        have HF := Lib.hid hf
        have h6 := HRT.out 1 hlen
        clear hf h3 h2 h1
        go_enter Try.func12, Try.ntmps12
        go_wp2_with fail
        refine (HEND.out _).mono ?_
        rintro e w' ⟨rfl, rfl⟩
        go_wp2_with fail
        refine (HR3.out _).mono ?_
        rintro e w' ⟨rfl, rfl⟩
        go_wp2_with fail
        refine (HR2.out _).mono ?_
        rintro e w' ⟨rfl, rfl⟩
        go_wp2_with fail
        refine (HR1.out _).mono ?_
        rintro e w' ⟨rfl, rfl⟩
        go_wp2_with fail
        refine (refmend_any _ _ (HSUB.out _)).mono ?_
        rintro e w' ⟨rfl, hb⟩
        go_wp2
        refine bodyPost_ret (v := .tuple #[.string (strOfNums (mendOf (ns (s.extract 0 (s.size - 1))))), .int .i64 (s.size : Nat), .bool false, .int .i64 0]) (by simp [results, Try.results12, go_sem]; first | done | rfl) rfl ⟨HF.out, hb⟩
    · rw [h3] at HR3
      rw [h2] at HR2
      have hlen : 2 ≤ s.size := by have := endsL_len h2; simp at this; rw [HL.out] at this; exact this
      have hf := HE.out 2 hlen (by unfold openN; rw [if_neg (by simp), h3, h2]; rfl)
      have HF := Lib.hid hf
      have h6 := HRT.out 2 hlen
      clear hf h3 h2
      go_enter Try.func12, Try.ntmps12
      go_wp2_with fail
      refine (HEND.out _).mono ?_
      rintro e w' ⟨rfl, rfl⟩
      go_wp2_with fail
      refine (HR3.out _).mono ?_
      rintro e w' ⟨rfl, rfl⟩
      go_wp2_with fail
      refine (HR2.out _).mono ?_
      rintro e w' ⟨rfl, rfl⟩
      go_wp2_with fail
      refine (refmend_any _ _ (HSUB.out _)).mono ?_
      rintro e w' ⟨rfl, hb⟩
      go_wp2
      refine bodyPost_ret (v := .tuple #[.string (strOfNums (mendOf (ns (s.extract 0 (s.size - 2))))), .int .i64 (s.size : Nat), .bool false, .int .i64 0]) (by simp [results, Try.results12, go_sem]; first | done | rfl) rfl ⟨HF.out, hb⟩
  · rw [h3] at HR3
    have hlen : 3 ≤ s.size := by have := endsL_len h3; simp at this; rw [HL.out] at this; exact this
    have hf := HE.out 3 hlen (by unfold openN; rw [if_neg (by simp), h3]; rfl)
    have HF := Lib.hid hf
    have h6 := HRT.out 3 hlen
    clear hf h3
    go_enter Try.func12, Try.ntmps12
    go_wp2_with fail
    refine (HEND.out _).mono ?_
    rintro e w' ⟨rfl, rfl⟩
    go_wp2_with fail
    refine (HR3.out _).mono ?_
    rintro e w' ⟨rfl, rfl⟩
    go_wp2_with fail
    refine (refmend_any _ _ (HSUB.out _)).mono ?_
    rintro e w' ⟨rfl, hb⟩
    go_wp2
    refine bodyPost_ret (v := .tuple #[.string (strOfNums (mendOf (ns (s.extract 0 (s.size - 3))))), .int .i64 (s.size : Nat), .bool false, .int .i64 0]) (by simp [results, Try.results12, go_sem]; first | done | rfl) rfl ⟨HF.out, hb⟩

/-- there is one end alone -/
theorem endSpec_some (k : Int) (xs : List Int) : ∃ to n cl, EndSpec k xs to n cl := by
  by_cases h1 : k = 0 ∧ preB [62] xs = true
  · exact ⟨0, 1, true, .inl ⟨h1.1, h1.2, rfl, rfl, rfl⟩⟩
  · have g1 : k = 0 → preB [62] xs = false := fun e => by
      cases h : preB [62] xs
      · rfl
      · exact absurd ⟨e, h⟩ h1
    by_cases h2 : k = 0 ∧ preB [45, 62] xs = true
    · exact ⟨0, 2, true, .inr (.inl ⟨h2.1, g1 h2.1, h2.2, rfl, rfl, rfl⟩)⟩
    · have g2 : k = 0 → preB [45, 62] xs = false := fun e => by
        cases h : preB [45, 62] xs
        · rfl
        · exact absurd ⟨e, h⟩ h2
      have first : ∀ m, m ≤ xs.length → (∀ j, j < m → matchAt k xs j = 0) ∨ ∃ to, to < m ∧ matchAt k xs to ≠ 0 ∧ ∀ j, j < to → matchAt k xs j = 0 := by
        intro m
        induction m with
        | zero => exact fun _ => .inl fun j h => by omega
        | succ m ih =>
          intro hm
          rcases ih (by omega) with h | ⟨to, a, b, c⟩
          · by_cases hz : matchAt k xs m = 0
            · exact .inl (none_next h hz)
            · exact .inr ⟨m, by omega, hz, h⟩
          · exact .inr ⟨to, by omega, b, c⟩
      rcases first xs.length (Nat.le_refl _) with h | ⟨to, a, b, c⟩
      · exact ⟨_, _, _, .inr (.inr ⟨fun e => ⟨g1 e, g2 e⟩, .inr ⟨h, rfl, rfl, rfl⟩⟩)⟩
      · exact ⟨_, _, _, .inr (.inr ⟨fun e => ⟨g1 e, g2 e⟩, .inl ⟨a, b, c, rfl, rfl⟩⟩)⟩
theorem closed_one {k : Int} {xs : List Int} {a b : Nat} (ha : ClosedAt k xs a) (hb : ClosedAt k xs b) : a = b := by
  obtain ⟨a1, a2, a3, a4⟩ := ha
  obtain ⟨b1, b2, b3, b4⟩ := hb
  rcases Nat.lt_trichotomy a b with h | h | h
  · rw [b4 a a1 h] at a3; exact absurd a3 (by simp)
  · exact h
  · rw [a4 b b1 h] at b3; exact absurd b3 (by simp)
theorem closed_not {k : Int} {xs : List Int} {a : Nat} (ha : ClosedAt k xs a) (hb : NeverC k xs) : False := by
  obtain ⟨a1, a2, a3, a4⟩ := ha
  rw [hb a a1 a2] at a3; exact absurd a3 (by simp)
theorem endSpec_one {k : Int} {xs : List Int} {to n to' n' : Nat} {cl cl' : Bool} (h : EndSpec k xs to n cl) (h' : EndSpec k xs to' n' cl') : to' = to ∧ n' = n ∧ cl' = cl := by
  rcases end_spec h with ⟨rfl, h2, rfl⟩ | ⟨rfl, h2, rfl, rfl⟩
  · rcases end_spec h' with ⟨rfl, g2, rfl⟩ | ⟨rfl, g2, rfl, rfl⟩
    · obtain rfl := closed_one h2 g2
      exact ⟨rfl, rfl, rfl⟩
    · exact (closed_not h2 g2).elim
  · rcases end_spec h' with ⟨rfl, g2, rfl⟩ | ⟨rfl, g2, rfl, rfl⟩
    · exact (closed_not g2 h2).elim
    · exact ⟨rfl, rfl, rfl⟩
theorem refend_fixed (k : Int) (s : ByteArray) (hx : s.size ≤ 1099511627776) : ∃ to n cl, EndSpec k (ns s) to n cl ∧ ∀ w0, Calls Try.prog 24 #[.int .i64 k, .string s] w0 fun e w' => e = .returned (.tuple #[.int .i64 (to : Nat), .int .i64 (n : Nat), .bool cl]) ∧ w0 = w' := by
  obtain ⟨to, n, cl, h⟩ := endSpec_some k (ns s)
  refine ⟨to, n, cl, h, fun w0 => (refend_any k s w0 hx).mono ?_⟩
  rintro e w' ⟨⟨to', n', cl', rfl, h'⟩, rfl⟩
  obtain ⟨rfl, rfl, rfl⟩ := endSpec_one h h'
  exact ⟨rfl, rfl⟩

theorem refwhole_any (k : Int) (s : ByteArray) (w : World) (k0 : 0 ≤ k) (k2 : k ≤ 2) (hx : s.size ≤ 274877906944) :
    Calls Try.prog 12 #[.int .i64 k, .string s] w fun e w' => e = WholeEnd k (ns s) ∧ Below w.heap.size w w' := by
  obtain ⟨to, n, cl, h, hc⟩ := refend_fixed k s (by omega)
  have hl := ns_length s
  rcases end_spec h with ⟨rfl, h2, rfl⟩ | ⟨rfl, h2, rfl, rfl⟩
  · have := h2.2.1
    exact refwhole_closed k s w k0 k2 hx _ n (by omega) hc (fun t ht => wholeEnd_closed rfl h2 t ht)
  · rw [hl] at hc
    by_cases hk : k = 0
    · subst hk
      exact refwhole_open s w hx hc (fun t ht => wholeEnd_never h2 t ht)
    · exact refwhole_never k s w (by omega) k2 hx hc (fun t ht => wholeEnd_never h2 t ht)

end Go.Proofs.Ytoccmpaonicnnaa
