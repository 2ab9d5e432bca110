/- sievelaw09.MarkupEnds: the walk. (written by gen_ends.py) -/
import Derived.Test.YtoccmpaonicnnaaLives9
import Derived.Test.YtoccmpaonicnnaaRefWholeB
import Derived.Test.YtoccmpaonicnnaaEndsA
namespace Go.Proofs.Ytoccmpaonicnnaa.markupEnds
open Go.RowKit
set_option linter.unusedVariables false
set_option linter.unusedSimpArgs false

def HasIs (s p : ByteArray) (b : Bool) : Prop := ∀ w0, Calls Try.prog 18 #[.string s, .string p] w0 fun e w' => e = .returned (.bool b) ∧ w0 = w'
def WholeIs (s t : ByteArray) (n : Int) (c : Bool) : Prop := ∀ w0, Calls Try.prog 11 #[.int .i64 0, .string s] w0 fun e w' => e = .returned (.tuple #[.string t, .int .i64 n, .bool c, .int .i64 0]) ∧ Below w0.heap.size w0 w'
def newB (s : ByteArray) (w : World) : World := (w.alloc (.cells (bytesRow s (grownCap w s.size 0 5)) 5 ((bytesRow s (grownCap w s.size 0 5)).size, (bytesRow s (grownCap w s.size 0 5)).size + 1))).drew
def ValidIs (s : ByteArray) (b : Bool) : Prop := ∀ w0 : World, Calls Try.prog 19 #[.slice (some ⟨w0.heap.size, 0, none⟩) s.size (grownCap w0 s.size 0 5)] (newB s w0) fun e w' => e = .returned (.bool b) ∧ Below w0.heap.size w0 w'
def Tail (s : ByteArray) : Prop :=
  HasIs s ⟨#[45]⟩ true ∨ (HasIs s ⟨#[45]⟩ false ∧ HasIs s ⟨#[62]⟩ true) ∨ (HasIs s ⟨#[45]⟩ false ∧ HasIs s ⟨#[62]⟩ false ∧ ValidIs s false) ∨
    (HasIs s ⟨#[45]⟩ false ∧ HasIs s ⟨#[62]⟩ false ∧ ValidIs s true ∧ WholeIs (s ++ ⟨#[45, 45, 62]⟩) s ((s.size : Int) + 3) true)
theorem valid_is (s : ByteArray) (hx : s.size ≤ 1048576) : ValidIs s (validOf (ns s)) := by
  intro w
  have hcg := grownCap_ge w s.size 0 5
  have hl := ns_length s
  unfold newB
  generalize grownCap w s.size 0 5 = cp at *
  have hs1 := slI_bytesRow w s cp hcg 5 ((bytesRow s cp).size, (bytesRow s cp).size + 1)
  have hb1 : Below w.heap.size w (w.alloc (.cells (bytesRow s cp) 5 ((bytesRow s cp).size, (bytesRow s cp).size + 1))).drew := below_drewN ((Below.refl _ w).alloc (Nat.le_refl _) _) 1
  refine (refvalid_any _ _ (ns s) _ (hs1.below (below_drewN (Below.refl (w.heap.size + 1) _) 1) (Nat.le_refl _)) (by simp) (ns_byts s).byt (by omega)).mono ?_
  rintro e w1 ⟨rfl, hb2⟩
  exact ⟨rfl, hb1.trans (hb2.mono hb1.size)⟩
theorem has_is (s p : ByteArray) (hx : s.size ≤ 1099511627776) (hp : p.size ≤ 1000) (ws : List Int) (h : ns p = ws) : HasIs s p (hasB ws (ns s)) := fun w0 => by rw [← h]; exact has_any s p w0 hx (by omega)
theorem whole_is (s : ByteArray) (hx : s.size ≤ 274877906944) (t : List Int) (n : Nat) (c : Bool) (h : wholeR 0 (ns s) = (t, n, c)) : WholeIs s (strOfNums t) n c := fun w0 => by
  have := whole_any 0 s w0 (by omega) (by omega) hx
  rw [h] at this
  exact this
theorem tail_is (s : ByteArray) (hx : s.size ≤ 1048576) : Tail s := by
  have h1 := has_is s ⟨#[45]⟩ (by omega) (by decide) [45] (by decide +kernel)
  have h2 := has_is s ⟨#[62]⟩ (by omega) (by decide) [62] (by decide +kernel)
  have h3 := valid_is s hx
  cases e1 : hasB [45] (ns s)
  · rw [e1] at h1
    cases e2 : hasB [62] (ns s)
    · rw [e2] at h2
      cases e3 : validOf (ns s)
      · rw [e3] at h3; exact .inr (.inr (.inl ⟨h1, h2, h3⟩))
      · rw [e3] at h3
        refine .inr (.inr (.inr ⟨h1, h2, h3, ?_⟩))
        have hn : ns (s ++ ⟨#[45, 45, 62]⟩) = ns s ++ [45, 45, 62] := by rw [ns_append]; congr 1
        have := whole_is (s ++ ⟨#[45, 45, 62]⟩) (by rw [← ns_length, hn, List.length_append, ns_length]; simp; omega) (ns s) (s.size + 3) true (by rw [hn, plain_says (ns_byts s) e1 e2 e3, ns_length])
        rw [str_ns] at this
        have e : ((s.size + 3 : Nat) : Int) = (s.size : Int) + 3 := by omega
        rw [e] at this
        exact this
    · rw [e2] at h2; exact .inr (.inl ⟨h1, h2⟩)
  · rw [e1] at h1; exact .inl h1

set_option maxRecDepth 100000 in
set_option maxHeartbeats 4000000 in
theorem walk_never (s more T : ByteArray) (w : World) (hx : s.size ≤ 1048576) (hW : Hid (WholeIs s T (s.size : Nat) false)) (HTAIL : Hid (Tail s)) :
    Calls Try.prog 7 #[.string s, .string more] w fun e w' => e = .returned (.bool true) ∧ Below w.heap.size w w' := by
  have hby := fun w0 => run_bytes_of_string (P := Try.prog) w0 9 47 5 s Try.underlying9 Try.underlying47 Try.underlying5
  go_enter Try.func7, Try.ntmps7
  go_wp2_with fail
  refine (hW.out _).mono ?_
  rintro e w1 ⟨rfl, hb1⟩
  go_wp2_with fail
  rcases HTAIL.out with hD | ⟨hD, hG⟩ | ⟨hD, hG, hV⟩ | ⟨hD, hG, hV, hP⟩
  · skip
    skip
    refine (hD _).mono ?_
    rintro e w' ⟨rfl, rfl⟩
    go_wp2_with fail
    refine (lives9_yes _).mono ?_
    rintro e wz ⟨rfl, hbz⟩
    go_wp2
    go_ret
    exact ⟨rfl, bnext (hb1) hbz⟩
  · skip
    skip
    refine (hD _).mono ?_
    rintro e w' ⟨rfl, rfl⟩
    go_wp2_with fail
    refine (hG _).mono ?_
    rintro e w' ⟨rfl, rfl⟩
    go_wp2_with fail
    refine (lives9_yes _).mono ?_
    rintro e wz ⟨rfl, hbz⟩
    go_wp2
    go_ret
    exact ⟨rfl, bnext (hb1) hbz⟩
  · skip
    skip
    refine (hD _).mono ?_
    rintro e w' ⟨rfl, rfl⟩
    go_wp2_with fail
    refine (hG _).mono ?_
    rintro e w' ⟨rfl, rfl⟩
    go_wp2_with fail
    refine (hV w1).mono ?_
    rintro e wv ⟨rfl, hbv⟩
    go_wp2_with fail
    refine (lives9_yes _).mono ?_
    rintro e wz ⟨rfl, hbz⟩
    go_wp2
    go_ret
    exact ⟨rfl, bnext (bnext (hb1) hbv) hbz⟩
  · skip
    skip
    refine (hD _).mono ?_
    rintro e w' ⟨rfl, rfl⟩
    go_wp2_with fail
    refine (hG _).mono ?_
    rintro e w' ⟨rfl, rfl⟩
    go_wp2_with fail
    refine (hV w1).mono ?_
    rintro e wv ⟨rfl, hbv⟩
    go_wp2_with fail
    refine (hP _).mono ?_
    rintro e wp ⟨rfl, hbp⟩
    go_wp2_with fail
    refine (lives9_yes _).mono ?_
    rintro e wz ⟨rfl, hbz⟩
    go_wp2
    go_ret
    exact ⟨rfl, bnext (bnext (bnext (hb1) hbv) hbp) hbz⟩

set_option maxRecDepth 100000 in
set_option maxHeartbeats 8000000 in
theorem walk_closed (s more T : ByteArray) (n : Nat) (w : World) (hx : s.size ≤ 1048576) (hm : more.size ≤ 1048576) (hn : n ≤ s.size) (hW : Hid (WholeIs s T (n : Nat) true)) (hM : Hid (WholeIs (s.extract 0 n ++ more) T (n : Nat) true))
    (h3 : Hid (HasIs T ⟨#[45, 45, 62]⟩ false)) (h4 : Hid (HasIs T ⟨#[45, 45, 33, 62]⟩ false)) (hT : T.size ≤ 1099511627776) (hf : Hid ((ns T)[0]? ≠ some 62)) (hg : Hid ((ns T).take 2 ≠ [45, 62])) (HTAIL : Hid (Tail s)) :
    Calls Try.prog 7 #[.string s, .string more] w fun e w' => e = .returned (.bool true) ∧ Below w.heap.size w w' := by
  have hby := fun w0 => run_bytes_of_string (P := Try.prog) w0 9 47 5 s Try.underlying9 Try.underlying47 Try.underlying5
  have hsl := fun w0 => run_slice_string_to (P := Try.prog) w0 9 s n hn Try.underlying9
  have hes : (s.extract 0 n).size ≤ 1048576 := by simp; omega
  go_enter Try.func7, Try.ntmps7
  go_wp2_with fail
  refine (hW.out _).mono ?_
  rintro e w1 ⟨rfl, hb1⟩
  go_wp2_with fail
  refine (h3.out _).mono ?_
  rintro e w' ⟨rfl, rfl⟩
  go_wp2_with fail
  rcases (show T.size = 0 ∨ T.size = 1 ∨ 2 ≤ T.size by omega) with h0 | h0 | h0
  · have hz : T = ByteArray.empty := by apply ns_inj; have := ns_length T; rw [h0] at this; rw [List.eq_nil_of_length_eq_zero this]; rfl
    subst hz
    refine (h4.out _).mono ?_
    rintro e w' ⟨rfl, rfl⟩
    go_wp2_with fail
    refine (hM.out _).mono ?_
    rintro e w2 ⟨rfl, hb2⟩
    have hb12 := bnext hb1 hb2
    go_wp2_with fail
    rcases HTAIL.out with hD | ⟨hD, hG⟩ | ⟨hD, hG, hV⟩ | ⟨hD, hG, hV, hP⟩
    · skip
      skip
      refine (hD _).mono ?_
      rintro e w' ⟨rfl, rfl⟩
      go_wp2_with fail
      refine (lives9_yes _).mono ?_
      rintro e wz ⟨rfl, hbz⟩
      go_wp2
      go_ret
      exact ⟨rfl, bnext (hb12) hbz⟩
    · skip
      skip
      refine (hD _).mono ?_
      rintro e w' ⟨rfl, rfl⟩
      go_wp2_with fail
      refine (hG _).mono ?_
      rintro e w' ⟨rfl, rfl⟩
      go_wp2_with fail
      refine (lives9_yes _).mono ?_
      rintro e wz ⟨rfl, hbz⟩
      go_wp2
      go_ret
      exact ⟨rfl, bnext (hb12) hbz⟩
    · skip
      skip
      refine (hD _).mono ?_
      rintro e w' ⟨rfl, rfl⟩
      go_wp2_with fail
      refine (hG _).mono ?_
      rintro e w' ⟨rfl, rfl⟩
      go_wp2_with fail
      refine (hV w2).mono ?_
      rintro e wv ⟨rfl, hbv⟩
      go_wp2_with fail
      refine (lives9_yes _).mono ?_
      rintro e wz ⟨rfl, hbz⟩
      go_wp2
      go_ret
      exact ⟨rfl, bnext (bnext (hb12) hbv) hbz⟩
    · skip
      skip
      refine (hD _).mono ?_
      rintro e w' ⟨rfl, rfl⟩
      go_wp2_with fail
      refine (hG _).mono ?_
      rintro e w' ⟨rfl, rfl⟩
      go_wp2_with fail
      refine (hV w2).mono ?_
      rintro e wv ⟨rfl, hbv⟩
      go_wp2_with fail
      refine (hP _).mono ?_
      rintro e wp ⟨rfl, hbp⟩
      go_wp2_with fail
      refine (lives9_yes _).mono ?_
      rintro e wz ⟨rfl, hbz⟩
      go_wp2
      go_ret
      exact ⟨rfl, bnext (bnext (bnext (hb12) hbv) hbp) hbz⟩
  · have hpos : 0 < T.size := by omega
    have hc : (((T[0]'hpos).toNat : Int) == 62) = false := by rw [beq_eq_false_iff_ne]; intro e; exact hf.out (by rw [ns_get hpos, e])
    have hne : (T.toList == []) = false := by rw [toList_beq, decide_eq_false_iff_not]; intro e; have : T.size = 0 := (by rw [← ns_length, e]; rfl); omega
    refine (h4.out _).mono ?_
    rintro e w' ⟨rfl, rfl⟩
    go_wp2_with fail
    refine (hM.out _).mono ?_
    rintro e w2 ⟨rfl, hb2⟩
    have hb12 := bnext hb1 hb2
    go_wp2_with fail
    rcases HTAIL.out with hD | ⟨hD, hG⟩ | ⟨hD, hG, hV⟩ | ⟨hD, hG, hV, hP⟩
    · skip
      skip
      refine (hD _).mono ?_
      rintro e w' ⟨rfl, rfl⟩
      go_wp2_with fail
      refine (lives9_yes _).mono ?_
      rintro e wz ⟨rfl, hbz⟩
      go_wp2
      go_ret
      exact ⟨rfl, bnext (hb12) hbz⟩
    · skip
      skip
      refine (hD _).mono ?_
      rintro e w' ⟨rfl, rfl⟩
      go_wp2_with fail
      refine (hG _).mono ?_
      rintro e w' ⟨rfl, rfl⟩
      go_wp2_with fail
      refine (lives9_yes _).mono ?_
      rintro e wz ⟨rfl, hbz⟩
      go_wp2
      go_ret
      exact ⟨rfl, bnext (hb12) hbz⟩
    · skip
      skip
      refine (hD _).mono ?_
      rintro e w' ⟨rfl, rfl⟩
      go_wp2_with fail
      refine (hG _).mono ?_
      rintro e w' ⟨rfl, rfl⟩
      go_wp2_with fail
      refine (hV w2).mono ?_
      rintro e wv ⟨rfl, hbv⟩
      go_wp2_with fail
      refine (lives9_yes _).mono ?_
      rintro e wz ⟨rfl, hbz⟩
      go_wp2
      go_ret
      exact ⟨rfl, bnext (bnext (hb12) hbv) hbz⟩
    · skip
      skip
      refine (hD _).mono ?_
      rintro e w' ⟨rfl, rfl⟩
      go_wp2_with fail
      refine (hG _).mono ?_
      rintro e w' ⟨rfl, rfl⟩
      go_wp2_with fail
      refine (hV w2).mono ?_
      rintro e wv ⟨rfl, hbv⟩
      go_wp2_with fail
      refine (hP _).mono ?_
      rintro e wp ⟨rfl, hbp⟩
      go_wp2_with fail
      refine (lives9_yes _).mono ?_
      rintro e wz ⟨rfl, hbz⟩
      go_wp2
      go_ret
      exact ⟨rfl, bnext (bnext (bnext (hb12) hbv) hbp) hbz⟩
  · have hpos : 0 < T.size := by omega
    have hc : (((T[0]'hpos).toNat : Int) == 62) = false := by rw [beq_eq_false_iff_ne]; intro e; exact hf.out (by rw [ns_get hpos, e])
    have hsl2 := fun w0 => run_slice_string_to (P := Try.prog) w0 9 T 2 h0 Try.underlying9
    have hq : ((T.extract 0 2).toList == [45, 62]) = false := by
      rw [toList_beq, ns_extract, decide_eq_false_iff_not]; intro e; exact hg.out (by simpa using e)
    have hne : (T.toList == []) = false := by rw [toList_beq, decide_eq_false_iff_not]; intro e; have : T.size = 0 := (by rw [← ns_length, e]; rfl); omega
    refine (h4.out _).mono ?_
    rintro e w' ⟨rfl, rfl⟩
    go_wp2_with fail
    refine (hM.out _).mono ?_
    rintro e w2 ⟨rfl, hb2⟩
    have hb12 := bnext hb1 hb2
    go_wp2_with fail
    rcases HTAIL.out with hD | ⟨hD, hG⟩ | ⟨hD, hG, hV⟩ | ⟨hD, hG, hV, hP⟩
    · skip
      skip
      refine (hD _).mono ?_
      rintro e w' ⟨rfl, rfl⟩
      go_wp2_with fail
      refine (lives9_yes _).mono ?_
      rintro e wz ⟨rfl, hbz⟩
      go_wp2
      go_ret
      exact ⟨rfl, bnext (hb12) hbz⟩
    · skip
      skip
      refine (hD _).mono ?_
      rintro e w' ⟨rfl, rfl⟩
      go_wp2_with fail
      refine (hG _).mono ?_
      rintro e w' ⟨rfl, rfl⟩
      go_wp2_with fail
      refine (lives9_yes _).mono ?_
      rintro e wz ⟨rfl, hbz⟩
      go_wp2
      go_ret
      exact ⟨rfl, bnext (hb12) hbz⟩
    · skip
      skip
      refine (hD _).mono ?_
      rintro e w' ⟨rfl, rfl⟩
      go_wp2_with fail
      refine (hG _).mono ?_
      rintro e w' ⟨rfl, rfl⟩
      go_wp2_with fail
      refine (hV w2).mono ?_
      rintro e wv ⟨rfl, hbv⟩
      go_wp2_with fail
      refine (lives9_yes _).mono ?_
      rintro e wz ⟨rfl, hbz⟩
      go_wp2
      go_ret
      exact ⟨rfl, bnext (bnext (hb12) hbv) hbz⟩
    · skip
      skip
      refine (hD _).mono ?_
      rintro e w' ⟨rfl, rfl⟩
      go_wp2_with fail
      refine (hG _).mono ?_
      rintro e w' ⟨rfl, rfl⟩
      go_wp2_with fail
      refine (hV w2).mono ?_
      rintro e wv ⟨rfl, hbv⟩
      go_wp2_with fail
      refine (hP _).mono ?_
      rintro e wp ⟨rfl, hbp⟩
      go_wp2_with fail
      refine (lives9_yes _).mono ?_
      rintro e wz ⟨rfl, hbz⟩
      go_wp2
      go_ret
      exact ⟨rfl, bnext (bnext (bnext (hb12) hbv) hbp) hbz⟩

theorem walk (s more : ByteArray) (w : World) (hx : s.size ≤ 1048576) (hm : more.size ≤ 1048576) :
    Calls Try.prog 7 #[.string s, .string more] w fun e w' => e = .returned (.bool true) ∧ Below w.heap.size w w' := by
  obtain ⟨to, n, cl, h⟩ := endSpec_some 0 (ns s)
  have hl := ns_length s
  rcases end_spec h with ⟨rfl, h2, rfl⟩ | ⟨rfl, h2, rfl, rfl⟩
  · have hb := ns_byts s
    have hns := ns_str (saidC_byts (ns s) n)
    have hn : n ≤ s.size := by have := h2.2.1; omega
    have hTs : (strOfNums (saidC (ns s) n)).size ≤ 1099511627776 := by
      rw [← ns_length, hns]
      have q1 := encs_length (runesOf ((ns s).take (n - endN ((ns s).take n))))
      have q2 := pcs_length ((ns s).take (n - endN ((ns s).take n)))
      have q3 : (runesOf ((ns s).take (n - endN ((ns s).take n)))).length ≤ s.size := by simp only [runesOf, List.length_map]; simp only [List.length_take] at q2; omega
      show (encs (runesOf ((ns s).take (n - endN ((ns s).take n))))).length ≤ _
      omega
    have hnm : ns (s.extract 0 n ++ more) = (ns s).take n ++ ns more := by rw [ns_append, ns_to]
    obtain ⟨c1, c2⟩ := closed_more h2 (ns more)
    have hbm : Byts ((ns s).take n ++ ns more) := by rw [← hnm]; exact ns_byts _
    refine walk_closed s more (strOfNums (saidC (ns s) n)) n w hx hm hn (Lib.hid (whole_is s (by omega) _ n true (closed_value hb h2))) (Lib.hid (whole_is _ ?_ _ n true ?_)) (Lib.hid ?_) (Lib.hid ?_) hTs (Lib.hid ?_) (Lib.hid ?_) (Lib.hid (tail_is s hx))
    · rw [← ns_length, hnm, List.length_append, List.length_take, ns_length, ns_length]; omega
    · rw [hnm, closed_value hbm c1, c2]
    · have := has_is (strOfNums (saidC (ns s) n)) ⟨#[45, 45, 62]⟩ hTs (by decide) [45, 45, 62] (by decide +kernel)
      rw [hns, said_has3 hb h2] at this; exact this
    · have := has_is (strOfNums (saidC (ns s) n)) ⟨#[45, 45, 33, 62]⟩ hTs (by decide) [45, 45, 33, 62] (by decide +kernel)
      rw [hns, said_has4 hb h2] at this; exact this
    · rw [hns]; exact said_first hb h2
    · rw [hns]; exact said_second hb h2
  · exact walk_never s more (strOfNums (if (0 : Int) = 1 then [] else mendOf ((ns s).take ((ns s).length - openN 0 (ns s))))) w hx (Lib.hid (whole_is s (by omega) _ s.size false (by rw [whole_never (ns_byts s) h2, hl]))) (Lib.hid (tail_is s hx))

end Go.Proofs.Ytoccmpaonicnnaa.markupEnds
