/- sievelaw09.MarkupRunes: the walk. -/
import Derived.Test.YtoccmpaonicnnaaLives9
import Derived.Test.YtoccmpaonicnnaaRefWholeB
import Derived.Test.YtoccmpaonicnnaaScanS
import Derived.Test.YtoccmpaonicnnaaScanF
namespace Go.Proofs.Ytoccmpaonicnnaa.markupRunes
open Go.RowKit
set_option linter.unusedVariables false
set_option linter.unusedSimpArgs false

def saysR (k : Int) (o : Bool) (l : List Int) : List Int := sayR k (if o = true then (if k = 0 then endN l else 1) else openN k l) l
theorem law_runes {k : Int} {l : List Int} {r : Int} {o : Bool} (h : NotYetL k (l.map fixR)) (ho : overL k (l.map fixR ++ [fixR r]) = o) :
    wholeR k (encs (l ++ [r])) = (saysR k o (l.map fixR ++ [fixR r]), (encs (l ++ [r])).length, o) := by
  cases o
  · have h2 : NotYetL k ((l ++ [r]).map fixR) := by rw [List.map_append, List.map_cons, List.map_nil]; exact h.snoc ho
    have := whole_runes_open h2
    rw [List.map_append, List.map_cons, List.map_nil] at this
    rw [this]; rfl
  · rw [whole_runes_over h ho]; rfl
theorem text_now (D : Nat) (k : Int) (tv : Value) (t : Int) (l : List Int) (o : Bool) (w : World) (hD : ScAt w D k tv t o) (hl : SlI .i32 w.heap.size w tv l) (h1 : o = true → 1 ≤ l.length ∧ t = ((if k = 0 then endN l else 1 : Nat) : Int)) (hx : l.length ≤ 1099511627776) :
    Calls Try.prog 16 #[.pointer (some ⟨D, 0, none⟩)] w fun e w' => e = .returned (.string (strOfNums (saysR k o l))) ∧ Below w.heap.size w w' := by
  cases o
  · by_cases hk : k = 1
    · subst hk; exact text_doc D tv t false w hD
    · have : saysR k false l = encs (l.take (l.length - openN k l)) := by unfold saysR sayR; rw [if_neg hk]; rfl
      rw [this]
      exact text_open D k tv t l w hD hk hl hx
  · obtain ⟨h2, h3⟩ := h1 rfl
    subst h3
    have : saysR k true l = sayR k (if k = 0 then endN l else 1) l := rfl
    rw [this]
    refine text_say D k tv _ l w hD hl ?_ hx
    split
    · exact endN_le l
    · exact h2
theorem ref_runes (k : Int) (l S : List Int) (o : Bool) (k0 : 0 ≤ k) (k2 : k ≤ 2) (hx : l.length ≤ 1048576) (hlaw : wholeR k (encs l) = (S, (encs l).length, o)) (w : World) :
    Calls Try.prog 12 #[.int .i64 k, .string (strOfNums (encs l))] w fun e w' => e = .returned (.tuple #[.string (strOfNums S), .int .i64 ((strOfNums (encs l)).size : Nat), .bool o, .int .i64 0]) ∧ Below w.heap.size w w' := by
  have hn := ns_str (encs_byts l)
  have hs : (strOfNums (encs l)).size = (encs l).length := by rw [← ns_length, hn]
  have he := encs_length l
  have := refwhole_any k (strOfNums (encs l)) w k0 k2 (by omega)
  unfold WholeEnd at this
  rw [hn, hlaw] at this
  rw [hs]
  exact this

set_option maxRecDepth 100000 in
set_option maxHeartbeats 4000000 in
theorem walk_bad (k : Int) (v : Value) (w : World) (h : k < 0 ∨ 2 < k) :
    Calls Try.prog 5 #[.int .i64 k, v] w fun e w' => e = .returned (.bool true) ∧ Below w.heap.size w w' := by
  have h1 := fun w0 => new_bad k w0 h
  rcases h with h | h
  · go_enter Try.func5, Try.ntmps5
    go_wp2_with (first
      | (go_at_call 13; refine (h1 _).mono ?_; rintro e w1 ⟨rfl, rfl⟩)
      | (go_at_call 10; refine (lives9_yes _).mono ?_; rintro e w3 ⟨rfl, hb3⟩))
    go_ret
    exact ⟨rfl, hb3⟩
  · have h' : ¬ k < 0 := by omega
    go_enter Try.func5, Try.ntmps5
    go_wp2_with (first
      | (go_at_call 13; refine (h1 _).mono ?_; rintro e w1 ⟨rfl, rfl⟩)
      | (go_at_call 10; refine (lives9_yes _).mono ?_; rintro e w3 ⟨rfl, hb3⟩))
    go_ret
    exact ⟨rfl, hb3⟩

/-- the scanner between two runes -/
def SR (D : Nat) (k : Int) (l : List Int) (w0 W : World) : Prop :=
  ∃ tv t, ScAt W D k tv t false ∧ W.ownsRow (D + 1) 21 1 tv (l.map fixR).length ((l.map fixR).map (Value.int .i32)) ∧ NotYetL k (l.map fixR) ∧ Below D w0 W ∧ D + 1 ≤ W.heap.size

set_option maxRecDepth 100000 in
set_option maxHeartbeats 4000000 in
theorem walk_good (k : Int) (v : Value) (xs : List Int) (w : World) (k0 : 0 ≤ k) (k2 : k ≤ 2) (hs : SlI .i32 w.heap.size w v xs) (hx : xs.length ≤ 1048576) :
    Calls Try.prog 5 #[.int .i64 k, v] w fun e w' => e = .returned (.bool true) ∧ Below w.heap.size w w' := by
  obtain ⟨i0, hi, hz0, hz1, hz2⟩ := info_parts Try.infoI32
  have hce : Try.prog.cellsOf 21 = 1 := by kernel_rfl
  have hs2 := hs
  obtain ⟨ao, cap, rfl, hcap, hn, hr⟩ := hs2
  have HS := Lib.hid hs
  have HR := Lib.hid hr
  clear hs hr
  go_enter Try.func5, Try.ntmps5
  go_wp2_with (go_at_call 13; refine (new_any k _ k0 k2).mono ?_; rintro e w' ⟨rfl, rfl⟩)
  have hSR0 : SR w.heap.size k (xs.take 0) w (w.alloc (.cells #[.int .i64 k, .slice none 0 0, .int .i64 0, .bool true, .bool false] 43)) :=
    ⟨.slice none 0 0, 0, World.alloc_heap_new w _, World.ownsRow_nil _ _ _ _, NotYetL.nil k, (Below.refl _ w).alloc (Nat.le_refl _) _, by simp⟩
  go_loopw [53] (fun i wr => ∃ j : Nat, i = .int .i64 j ∧ j ≤ xs.length ∧ SR w.heap.size k (xs.take j) w wr) (fun i _ => xs.length - (intOf i).toNat)
  case atStart => exact ⟨0, rfl, Nat.zero_le _, hSR0⟩
  case round =>
    clear hSR0
    obtain ⟨j, rfl, hj, tv, t, hD, hown, hny, hbw, hsw⟩ := hrel
    by_cases hjn : j < xs.length
    · obtain ⟨x, hxk⟩ := get_of_lt xs hjn
      obtain ⟨b, off, rfl, hlt, hrun⟩ := HR.out (by omega)
      have hcx : wr.cell? ⟨b, off + j, none⟩ = some (.int .i32 x) := (hbw.cell (p := ⟨b, off + j, none⟩) (by show b < w.heap.size; omega)).trans (hrun j x hxk)
      have htk : xs.take (j + 1) = xs.take j ++ [x] := by rw [List.take_add_one, hxk]; rfl
      obtain ⟨o, ho⟩ : ∃ o, overL k ((xs.take j).map fixR ++ [fixR x]) = o := ⟨_, rfl⟩
      have hlaw := law_runes hny ho
      have hput := put_any w.heap.size (w.heap.size + 1) k tv t x ((xs.take j).map fixR) wr hD hown (by omega) hsw (by simp; omega) k0 k2
      rw [ho] at hput
      have href := fun w0 => ref_runes k (xs.take j ++ [x]) _ o k0 k2 (by simp; omega) hlaw w0
      have hsl := fun w0 => run_sub_to (P := Try.prog) 32 21 Try.underlying32 i0 hi hce (some ⟨b, off, none⟩) xs.length cap (j + 1) (by omega) w0
      rw [show ((j + 1 : Nat) : Int) = (j : Int) + 1 from by omega] at hsl
      have hrt : ∀ W, Below w.heap.size w W → Calls Try.prog 15 #[.slice (some ⟨b, off, none⟩) (j + 1) cap] W fun e W' => e = .returned (.string (strOfNums (encs (xs.take j ++ [x])))) ∧ Below W.heap.size W W' := fun W hW => by
        rw [← htk]
        exact reftext_any _ _ _ W (slI_to (HS.out.below hW (Nat.le_refl _)) (by omega)) hW.size (by simp; omega)
      have hmap : (xs.take j).map fixR ++ [fixR x] = (xs.take (j + 1)).map fixR := by rw [htk]; simp
      have hlen : ((xs.take (j + 1)).map fixR).length = ((xs.take j).map fixR).length + 1 := by rw [← hmap]; simp
      have hll : ((xs.take (j + 1)).map fixR).length ≤ 1099511627776 := by simp; omega
      generalize strOfNums (encs (xs.take j ++ [x])) = so at *
      have hpt : o = true → putT k t (fixR x) ((xs.take j).map fixR) = ((if k = 0 then endN ((xs.take (j + 1)).map fixR) else 1 : Nat) : Int) := fun e => by
        rw [← hmap]; exact putT_over (by rw [ho, e])
      have hny2 : o = false → NotYetL k ((xs.take (j + 1)).map fixR) := fun e => by rw [← hmap]; exact hny.snoc (by rw [ho, e])
      have hS0 : ∀ i, i < w.heap.size → ¬ (i = w.heap.size ∨ tv.ownBlock = some i) := by
        rintro i hi' (h | h)
        · omega
        · have := (hown.lt _ h).1; omega
      rw [hmap] at hput href
      generalize hL : (xs.take (j + 1)).map fixR = L at *
      have HP := Lib.hid hput
      have HF := Lib.hid href
      have HT := Lib.hid hrt
      have HPT := Lib.hid hpt
      have HN := Lib.hid hny2
      have HS0 := Lib.hid hS0
      have HLEN := Lib.hid hlen
      clear hput href hrt hpt hny2 hS0 hlaw hmap htk hxk ho hny hrun hown hlen
      cases o
      · go_wp2_with fail
        refine HP.out.mono ?_
        rintro e w2 ⟨tv2, rfl, hD2, hown2, hf2⟩
        have hb2 : Below w.heap.size w w2 := hbw.trans (hf2.below (by have := hbw.size; omega) HS0.out)
        have hw2 : w.heap.size + 1 ≤ w2.heap.size := Nat.le_trans hsw hf2.size
        rw [← HLEN.out] at hown2
        clear hf2 hcx hD
        go_wp2_with fail
        refine (HT.out _ hb2).mono ?_
        rintro e w3 ⟨rfl, hb3⟩
        go_wp2_with fail
        refine (HF.out _).mono ?_
        rintro e w4 ⟨rfl, hb4⟩
        have hb24 : Below w2.heap.size w2 w4 := bnext hb3 hb4
        have hD4 := hD2.below hb24 hD2.lt
        have hown4 := ownsRow_below hown2 hb24 (Nat.le_refl _)
        have htx := text_now w.heap.size k tv2 _ L false w4 hD4 (slI_of_owns hown4 (Nat.le_refl _)) (fun h => by cases h) hll
        have HX := Lib.hid htx
        have HO4 := Lib.hid hown4
        clear hown2 hown4 htx hD2
        go_wp2_with fail
        refine HX.out.mono ?_
        rintro e w5 ⟨rfl, hb5⟩
        have hb25 := bnext hb24 hb5
        have hD5 := hD4.below hb5 hD4.lt
        have HO5 := Lib.hid (ownsRow_below HO4.out hb5 (Nat.le_refl _))
        go_wp2
        go_roundw
        case rel => exact ⟨j + 1, by go_num, by omega, tv2, _, hD5, by rw [hL]; exact HO5.out, by rw [hL]; exact HN.out (by first | trivial | rfl), hb2.trans (hb25.mono hb2.size), by have := hb25.size; omega⟩
        case measure => simp [intOf]; omega
      · go_wp2_with fail
        refine HP.out.mono ?_
        rintro e w2 ⟨tv2, rfl, hD2, hown2, hf2⟩
        have hb2 : Below w.heap.size w w2 := hbw.trans (hf2.below (by have := hbw.size; omega) HS0.out)
        have hw2 : w.heap.size + 1 ≤ w2.heap.size := Nat.le_trans hsw hf2.size
        rw [← HLEN.out] at hown2
        clear hf2 hcx hD
        go_wp2_with fail
        refine (HT.out _ hb2).mono ?_
        rintro e w3 ⟨rfl, hb3⟩
        go_wp2_with fail
        refine (HF.out _).mono ?_
        rintro e w4 ⟨rfl, hb4⟩
        have hb24 : Below w2.heap.size w2 w4 := bnext hb3 hb4
        have hD4 := hD2.below hb24 hD2.lt
        have hown4 := ownsRow_below hown2 hb24 (Nat.le_refl _)
        have hpos : 1 ≤ L.length := by have := HLEN.out; omega
        have htx := fun W (hb : Below w4.heap.size w4 W) => text_now w.heap.size k tv2 _ L true W (hD4.below hb hD4.lt) (slI_of_owns (ownsRow_below hown4 hb (Nat.le_refl _)) (Nat.le_refl _)) (fun h => ⟨hpos, HPT.out (by first | trivial | rfl)⟩) hll
        have HX := Lib.hid htx
        clear hown2 hown4 htx hD2
        go_wp2_with fail
        refine (HX.out _ (Below.refl _ _)).mono ?_
        rintro e w5 ⟨rfl, hb5⟩
        have hb25 := bnext hb24 hb5
        have hD5 := hD4.below hb5 hD4.lt
        go_wp2_with fail
        refine (put_over w.heap.size k tv2 _ 120 _ hD5).mono ?_
        rintro e w' ⟨rfl, rfl⟩
        go_wp2_with fail
        refine (end_over w.heap.size k tv2 _ _ hD5).mono ?_
        rintro e w' ⟨rfl, rfl⟩
        go_wp2_with fail
        refine (HX.out _ hb5).mono ?_
        rintro e w6 ⟨rfl, hb6⟩
        go_wp2_with fail
        refine (lives9_yes _).mono ?_
        rintro e w7 ⟨rfl, hb7⟩
        go_wp2
        go_ret
        exact ⟨rfl, bnext (bnext (bnext hb2 hb25) hb6) hb7⟩
    · obtain rfl : j = xs.length := by omega
      rw [List.take_length] at hown hny
      have hlaw := whole_runes_open hny
      have href := fun w0 => ref_runes k xs _ false k0 k2 (by omega) hlaw w0
      have hrt : ∀ W, Below w.heap.size w W → Calls Try.prog 15 #[.slice ao xs.length cap] W fun e W' => e = .returned (.string (strOfNums (encs xs))) ∧ Below W.heap.size W W' := fun W hW =>
        reftext_any _ _ _ W (HS.out.below hW (Nat.le_refl _)) hW.size (by omega)
      generalize strOfNums (encs xs) = so at *
      have hll : (xs.map fixR).length ≤ 1099511627776 := by simp; omega
      have hol := openN_le k (xs.map fixR)
      generalize xs.map fixR = L at *
      have HF := Lib.hid href
      have HT := Lib.hid hrt
      have HO := Lib.hid hown
      clear href hrt hlaw hny hown
      go_wp2_with fail
      refine (HT.out _ hbw).mono ?_
      rintro e w1 ⟨rfl, hb1⟩
      go_wp2_with fail
      refine (HF.out _).mono ?_
      rintro e w2 ⟨rfl, hb2⟩
      have hb02 := bnext hb1 hb2
      have hD2 := hD.below hb02 hD.lt
      have HO2 := Lib.hid (ownsRow_below HO.out hb02 (Nat.le_refl _))
      have hbw2 := hbw.trans (hb02.mono hbw.size)
      go_wp2_with fail
      refine (end_any w.heap.size (w.heap.size + 1) k tv t L _ hD2 HO2.out (by omega) hll).mono ?_
      rintro e w3 ⟨rfl, hD3, hown3, hf3⟩
      have hbw3 := hbw2.trans (hf3.below (n := w.heap.size) hbw2.size (fun i h1 h2 => by omega))
      have htx := text_say w.heap.size k tv _ L w3 hD3 (slI_of_owns hown3 (Nat.le_refl _)) hol hll
      have HX := Lib.hid htx
      clear htx hown3 hf3 hD2 hD
      go_wp2_with fail
      refine (put_over w.heap.size k tv _ 120 _ hD3).mono ?_
      rintro e w' ⟨rfl, rfl⟩
      go_wp2_with fail
      refine HX.out.mono ?_
      rintro e w4 ⟨rfl, hb4⟩
      have hD4 := hD3.below hb4 hD3.lt
      go_wp2_with fail
      refine (end_over w.heap.size k tv _ _ hD4).mono ?_
      rintro e w' ⟨rfl, rfl⟩
      go_wp2_with fail
      refine (lives9_yes _).mono ?_
      rintro e w5 ⟨rfl, hb5⟩
      go_wp2
      go_ret
      exact ⟨rfl, bnext (bnext hbw3 hb4) hb5⟩

theorem walk (k : Int) (v : Value) (xs : List Int) (w : World) (hs : SlI .i32 w.heap.size w v xs) (hx : xs.length ≤ 1048576) :
    Calls Try.prog 5 #[.int .i64 k, v] w fun e w' => e = .returned (.bool true) ∧ Below w.heap.size w w' := by
  by_cases h : 0 ≤ k ∧ k ≤ 2
  · exact walk_good k v xs w h.1 h.2 hs hx
  · exact walk_bad k v w (by omega)

end Go.Proofs.Ytoccmpaonicnnaa.markupRunes
