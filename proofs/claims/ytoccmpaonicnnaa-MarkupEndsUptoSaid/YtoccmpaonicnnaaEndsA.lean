/- sievelaw09.has; the plain laws of MarkupEnds. -/
import Derived.Test.YtoccmpaonicnnaaScanS
import Derived.Test.YtoccmpaonicnnaaRefOpen
namespace Go.Proofs.Ytoccmpaonicnnaa
open Go.RowKit
set_option linter.unusedVariables false
set_option linter.unusedSimpArgs false

def hasB (ws xs : List Int) : Bool := (List.range (xs.length + 1)).any fun i => decide ((xs.drop i).take ws.length = ws)
theorem hasB_true {ws xs : List Int} {i : Nat} (hi : i ≤ xs.length) (h : (xs.drop i).take ws.length = ws) : hasB ws xs = true := by
  unfold hasB; rw [List.any_eq_true]; exact ⟨i, by simp; omega, by simpa using h⟩
theorem hasB_false {ws xs : List Int} (h : ∀ i, i ≤ xs.length → (xs.drop i).take ws.length ≠ ws) : hasB ws xs = false := by
  unfold hasB; rw [List.any_eq_false]
  intro i hi
  simp at hi
  simpa using h i (by omega)
theorem hasB_none {ws xs a b : List Int} (h : hasB ws xs = false) : xs ≠ a ++ ws ++ b := by
  rintro rfl
  have := hasB_true (ws := ws) (xs := a ++ ws ++ b) (i := a.length) (by simp) (by rw [List.append_assoc, List.drop_left, List.take_left])
  rw [h] at this; exact absurd this (by simp)
theorem hasB_not {ws xs : List Int} (h : ∀ a b, xs ≠ a ++ ws ++ b) : hasB ws xs = false :=
  hasB_false fun i hi e => by
    refine h (xs.take i) ((xs.drop i).drop ws.length) ?_
    conv => lhs; rw [← List.take_append_drop i xs]
    rw [List.append_assoc]
    congr 1
    conv => lhs; rw [← List.take_append_drop ws.length (xs.drop i)]
    rw [e]

theorem cut_is {s p : ByteArray} {j : Nat} : ((s.extract j (j + p.size)).toList == p.toList) = decide (((ns s).drop j).take (ns p).length = ns p) := by
  rw [toList_beq2, Bool.eq_iff_iff, decide_eq_true_eq, decide_eq_true_eq]
  have e : ns (s.extract j (j + p.size)) = ((ns s).drop j).take (ns p).length := by rw [ns_extract, ns_length, List.drop_take, Nat.add_sub_cancel_left]
  rw [← e]
  exact ⟨fun h => by rw [h], fun h => ns_inj h⟩

set_option maxHeartbeats 1000000 in
theorem has_any (s p : ByteArray) (w : World) (hx : s.size ≤ 1099511627776) (hp : p.size ≤ 1099511627776) :
    Calls Try.prog 18 #[.string s, .string p] w fun e w' => e = .returned (.bool (hasB (ns p) (ns s))) ∧ w = w' := by
  obtain ⟨c, hc⟩ : ∃ c, hasB (ns p) (ns s) = c := ⟨_, rfl⟩
  rw [hc]
  have HC := Lib.hid hc
  clear hc
  go_enter Try.func18, Try.ntmps18
  go_wp2
  go_loop [5] (fun i => ∃ j : Nat, i = .int .i64 j ∧ j ≤ s.size + 1 ∧ ∀ m, m < j → ((ns s).drop m).take (ns p).length ≠ ns p) (fun i => s.size + 1 - (intOf i).toNat)
  case atStart => exact ⟨0, rfl, Nat.zero_le _, fun m h => by omega⟩
  case round =>
    obtain ⟨j, rfl, hj, hall⟩ := hrel
    by_cases hjn : j + p.size ≤ s.size
    · have h4 : (j : Int) + (p.size : Int) ≤ (s.size : Int) := by omega
      have h5 := fun w0 => run_slice_string (P := Try.prog) w0 9 s .i64 .i64 (j : Int) ((j : Int) + (p.size : Int)) Try.underlying9 (by omega) (by omega) h4
      rw [show ((j : Int) + (p.size : Int)).toNat = j + p.size from by omega, Int.toNat_natCast] at h5
      have hcut := @cut_is s p j
      have HA := Lib.hid hall
      have h6 : decide ((j : Int) + (p.size : Int) ≤ (s.size : Int)) = true := by simpa using h4
      cases hd : decide (((ns s).drop j).take (ns p).length = ns p)
      · rw [hd] at hcut
        have hst : ∀ m, m < j + 1 → ((ns s).drop m).take (ns p).length ≠ ns p := fun m hm => by
          by_cases e : m < j
          · exact HA.out m e
          · obtain rfl : m = j := by omega
            exact of_decide_eq_false hd
        have HS := Lib.hid hst
        clear hst hd hall
        go_wp2
        go_round
        case rel => exact ⟨j + 1, by go_num, by omega, HS.out⟩
        case measure => simp [intOf]; omega
      · rw [hd] at hcut
        have hf : c = true := by rw [← HC.out]; exact hasB_true (i := j) (by rw [ns_length]; omega) (of_decide_eq_true hd)
        have HF := Lib.hid hf
        clear hd hall hf
        go_wp2
        go_ret
        exact ⟨ret_boolx HF.out.symm, rfl⟩
    · have hf : c = false := by
        rw [← HC.out]
        refine hasB_false fun i hi e => ?_
        by_cases hij : i < j
        · exact hall i hij e
        · have := congrArg List.length e
          rw [List.length_take, List.length_drop, ns_length, ns_length] at this
          rw [ns_length] at hi
          omega
      have h6 : decide ((j : Int) + (p.size : Int) ≤ (s.size : Int)) = false := by simp; omega
      have HF := Lib.hid hf
      clear hall hf
      go_wp2
      go_ret
      exact ⟨ret_boolx HF.out.symm, rfl⟩

/-! no program from here on -/
/-- the runes' beginnings are over nowhere before the bytes' are -/
theorem over_from {k : Int} {p Q R : List Int} (hb : Byts p) (h : runesOf p = Q ++ 62 :: R) (ho : overL k (Q ++ [62]) = true) : ∃ e, 1 ≤ e ∧ e ≤ p.length ∧ overL k (p.take e) = true := by
  have hrun : (prs p).map Prod.snd = Q ++ 62 :: R := by rw [← h, ← prRunes_prs]; rfl
  obtain ⟨q, l2, e1, e2, e3⟩ := List.map_eq_append_iff.1 hrun
  obtain ⟨y, rest, rfl, e4, e5⟩ := List.map_eq_cons_iff.1 e3
  have hf := good_of_prs hb (q := q ++ [y]) (rest := rest) (by rw [e1]; simp)
  have hov : overL k (fixP (q ++ [y])) = true := by rw [hf, List.map_append, e2, List.map_cons, List.map_nil, e4]; exact ho
  obtain ⟨_, _, h3, h4⟩ := over_at hb e1 hov
  exact ⟨y.1 + 1, by omega, by omega, h3⟩
/-- what a closed comment says -/
def saidC (xs : List Int) (n : Nat) : List Int := mendOf (xs.take (n - endN (xs.take n)))
theorem closed_value {xs : List Int} (hb : Byts xs) {n : Nat} (h : ClosedAt 0 xs n) : wholeR 0 xs = (saidC xs n, n, true) := by
  rw [whole_closed hb h]; rfl
theorem said_no {xs : List Int} (hb : Byts xs) {n : Nat} (h : ClosedAt 0 xs n) {a ws b : List Int} (hw : Asc (ws ++ [62])) (ha : Byts a) (hbb : Byts b) (ho : overL 0 (runesOf a ++ ws ++ [62]) = true) : saidC xs n ≠ a ++ (ws ++ [62]) ++ b := by
  intro he
  obtain ⟨h1, h2, h3, h4⟩ := h
  have hN : 1 ≤ endN (xs.take n) := by
    unfold overL at h3
    simp only [Bool.and_eq_true, Bool.or_eq_true, decide_eq_true_eq, ne_eq, not_true_eq_false, false_or] at h3
    omega
  have hr : runesOf (xs.take (n - endN (xs.take n))) = (runesOf a ++ ws) ++ 62 :: runesOf b := by
    rw [← runes_mend (hb.take _)]
    show runesOf (saidC xs n) = _
    rw [he]
    have e : a ++ (ws ++ [62]) ++ b = (a ++ ws) ++ 62 :: b := by simp
    rw [e, runes_ascii (by omega) _ (by
      intro x hx
      rcases List.mem_append.1 hx with h | h
      · exact ha x h
      · exact hw.byts x (by simp [h]))]
    rw [runes_asc (fun x hx => hw x (by simp [hx])) ha]
  obtain ⟨e, e1, e2, e3⟩ := over_from (hb.take _) hr ho
  simp only [List.length_take] at e2
  rw [List.take_take, Nat.min_eq_left (by omega)] at e3
  rw [h4 e e1 (by omega)] at e3
  exact absurd e3 (by simp)
theorem saidC_byts (xs : List Int) (n : Nat) : Byts (saidC xs n) := mendOf_byts _
theorem byts_of_append {a b : List Int} (h : Byts (a ++ b)) : Byts a ∧ Byts b := ⟨fun x hx => h x (by simp [hx]), fun x hx => h x (by simp [hx])⟩
theorem said_has3 {xs : List Int} (hb : Byts xs) {n : Nat} (h : ClosedAt 0 xs n) : hasB [45, 45, 62] (saidC xs n) = false :=
  hasB_not fun a b e => by
    have := saidC_byts xs n
    rw [e] at this
    obtain ⟨q1, q2⟩ := byts_of_append this
    exact said_no hb h (ws := [45, 45]) asc_3 (byts_of_append q1).1 q2 (by rw [List.append_assoc]; exact (over_3 _).1) e
theorem said_has4 {xs : List Int} (hb : Byts xs) {n : Nat} (h : ClosedAt 0 xs n) : hasB [45, 45, 33, 62] (saidC xs n) = false :=
  hasB_not fun a b e => by
    have := saidC_byts xs n
    rw [e] at this
    obtain ⟨q1, q2⟩ := byts_of_append this
    exact said_no hb h (ws := [45, 45, 33]) asc_4 (byts_of_append q1).1 q2 (by rw [List.append_assoc]; exact (over_4 _).1) e
theorem said_first {xs : List Int} (hb : Byts xs) {n : Nat} (h : ClosedAt 0 xs n) : (saidC xs n)[0]? ≠ some 62 := by
  intro e
  have hT := saidC_byts xs n
  cases hs : saidC xs n with
  | nil => rw [hs] at e; simp at e
  | cons c t =>
    rw [hs] at e hT
    simp at e
    subst e
    refine said_no hb h (a := []) (ws := []) (b := t) asc_1 (fun x hx => by simp at hx) (fun x hx => hT x (by simp [hx])) (by rw [runes_nil]; decide +kernel) ?_
    rw [hs]; rfl
theorem said_second {xs : List Int} (hb : Byts xs) {n : Nat} (h : ClosedAt 0 xs n) : (saidC xs n).take 2 ≠ [45, 62] := by
  intro e
  have hT := saidC_byts xs n
  have e2 : saidC xs n = [45, 62] ++ (saidC xs n).drop 2 := by rw [← e, List.take_append_drop]
  refine said_no hb h (a := []) (ws := [45]) (b := (saidC xs n).drop 2) asc_2 (fun x hx => by simp at hx) (fun x hx => hT x (List.mem_of_mem_drop hx)) (by rw [runes_nil]; decide +kernel) ?_
  exact e2
/-- nothing behind the end counts -/
theorem closed_more {xs : List Int} {n : Nat} (h : ClosedAt 0 xs n) (m : List Int) : ClosedAt 0 (xs.take n ++ m) n ∧ saidC (xs.take n ++ m) n = saidC xs n := by
  obtain ⟨h1, h2, h3, h4⟩ := h
  have hl : (xs.take n).length = n := by simp; omega
  have ht : ∀ e, e ≤ n → (xs.take n ++ m).take e = xs.take e := fun e he => by
    rw [List.take_append_of_le_length (by omega), List.take_take, Nat.min_eq_left he]
  refine ⟨⟨h1, by simp; omega, by rw [ht n (Nat.le_refl _)]; exact h3, fun e e1 e2 => by rw [ht e (by omega)]; exact h4 e e1 e2⟩, ?_⟩
  unfold saidC
  rw [ht n (Nat.le_refl _), ht _ (by omega)]
/-- a comment of a text without - and > says it -/
theorem plain_says {xs : List Int} (hb : Byts xs) (h1 : hasB [45] xs = false) (h2 : hasB [62] xs = false) (hv : validOf xs = true) : wholeR 0 (xs ++ [45, 45, 62]) = (xs, xs.length + 3, true) := by
  have hbb : Byts (xs ++ [45, 45, 62]) := fun x hx => by
    rcases List.mem_append.1 hx with h | h
    · exact hb x h
    · exact asc_3.byts x h
  have n62 : ∀ x ∈ xs, x ≠ 62 := fun x hx e => by
    subst e
    obtain ⟨a, b, rfl⟩ := List.append_of_mem hx
    exact hasB_none h2 (a := a) (b := b) (by simp)
  have hlen : (xs ++ [45, 45, 62]).length = xs.length + 3 := by simp
  have hall : (xs ++ [45, 45, 62]).take (xs.length + 3) = xs ++ [45, 45, 62] := by rw [← hlen, List.take_length]
  have hc : ClosedAt 0 (xs ++ [45, 45, 62]) (xs.length + 3) := by
    refine ⟨by omega, by omega, by rw [hall]; exact (over_3 _).1, fun e e1 e2 => ?_⟩
    cases ho : overL 0 ((xs ++ [45, 45, 62]).take e)
    · rfl
    · exfalso
      have ho2 := ho
      unfold overL at ho2
      simp only [Bool.and_eq_true] at ho2
      obtain ⟨q1, q2⟩ := suf_take ho2.1 (by omega)
      obtain ⟨r, hr⟩ := pre_iff.1 q2
      have hg := congrArg (fun l => l[0]?) hr
      simp only [List.getElem?_drop, List.length_cons, List.length_nil] at hg
      by_cases hlt : e - 1 < xs.length
      · have hg2 : xs[e - 1]? = some 62 := by
          rw [List.getElem?_append_left (by omega)] at hg
          simpa using hg
        exact n62 62 (List.mem_of_getElem? hg2) rfl
      · rcases (show e = xs.length + 1 ∨ e = xs.length + 2 by omega) with rfl | rfl
        · rw [List.getElem?_append_right (by omega)] at hg; simp at hg
        · rw [List.getElem?_append_right (by omega)] at hg
          rw [show xs.length + 2 - (0 + 1) + 0 - xs.length = 1 by omega] at hg; simp at hg
  rw [closed_value hbb hc]
  unfold saidC
  rw [hall, (over_3 _).2, show xs.length + 3 - 3 = xs.length by omega, List.take_left, mend_valid hb hv]

end Go.Proofs.Ytoccmpaonicnnaa
