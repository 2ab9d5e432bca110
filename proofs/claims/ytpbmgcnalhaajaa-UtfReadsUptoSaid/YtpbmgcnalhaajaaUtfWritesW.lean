/- sievelaw01.UtfWrites: the walk. -/
import Derived.Test.YtpbmgcnalhaajaaBytes
import Derived.Test.YtpbmgcnalhaajaaLives1
namespace Go.Proofs.Ytpbmgcnalhaajaa.utfWrites
open Go.RowKit
set_option linter.unusedVariables false
set_option linter.unusedSimpArgs false

theorem grownBy_trans {a b c : World} {row : Option Nat} (h : a.grownBy b row) (k : b.grownBy c row) : a.grownBy c row :=
  ⟨k.os.trans h.os, k.tape.trans h.tape, k.output.trans h.output, Nat.le_trans h.size k.size, fun i hi hr => (k.block i (Nat.lt_of_lt_of_le hi h.size) hr).trans (h.block i hi hr)⟩

theorem own_ne {v u : Value} {a b c d : Nat} (hv : ∀ k, v.ownBlock = some k → a ≤ k ∧ k < b) (hu : ∀ k, u.ownBlock = some k → c ≤ k ∧ k < d) (h : d ≤ a) : v.ownBlock = none ∨ v.ownBlock ≠ u.ownBlock := by
  cases hvb : v.ownBlock with
  | none => exact .inl rfl
  | some k =>
    refine .inr fun e => ?_
    have h1 := hv k hvb
    have h2 := hu k e.symm
    omega

set_option maxHeartbeats 4000000 in
theorem walk (v : Value) (xs : List Int) (w : World) (hs : SlI .i32 w.heap.size w v xs) (hx : xs.length ≤ 1048576) :
    Calls Try.prog 5 #[v] w fun e w' => e = .returned (.bool true) ∧ Below w.heap.size w w' := by
  obtain ⟨i0, hi, hz0, hz1, hz2⟩ := info_parts Try.infoI32
  have hx2 := hs
  obtain ⟨ao, cap, rfl, hcap, hn, hr⟩ := hx2
  have h0 := (hs.below ((Below.refl w.heap.size w).alloc (Nat.le_refl _) (.cells #[] 21)) (Nat.le_refl _)).sl
  have hb0 : Below w.heap.size w (w.alloc (.cells #[] 21)) := (Below.refl _ w).alloc (Nat.le_refl _) _
  go_enter Try.func5, Try.ntmps5
  go_wp2_with (at_builtin; refine wpList_append_sl _ rfl _ _ 36 rfl w.heap.size 21 i0 (.int .i32 0) 4 Try.underlying36 hi hz0 hz1 hz2 rfl _ 0 [] rfl (World.ownsRow_made w #[] 0 (Nat.le_refl _) (by simp [maxLen]) (by simp)) w.heap.size _ _ rfl h0 (ints_one _ _) ?h1 ?h2 ?h3 ?_)
  case h1 => simp [maxLen]; omega
  case h2 => simp; omega
  case h3 => simp
  intro gv w1 hown1 hgrow1 _
  have hB1 : Below w.heap.size w w1 := hb0.grown hgrow1 (by simp) (fun k hk => by simp [Value.ownBlock] at hk; omega)
  have hG1 : SlI .i32 w1.heap.size w1 gv xs := slI_of_owns (by simpa using hown1) (Nat.le_refl _)
  have hs1 := hs.below hB1 (Nat.le_refl _)
  clear h0 hb0 hown1 hgrow1
  go_wp2_with fail
  refine (utfbytes_any _ _ xs _ hG1 (Nat.le_refl _) (by omega)).mono ?_
  rintro e w2 ⟨bv, rfl, hown2, hb2⟩
  have hB2 := hB1.trans (hb2.mono hB1.size)
  have hG2 := hG1.below hb2 (Nat.le_refl _)
  have HB2 := Lib.hid hown2
  have hlB0 := hown2.lt
  clear hG1 hown2
  go_wp2_with fail
  refine (utfbytes_any _ _ xs _ hG2 hb2.size (by omega)).mono ?_
  rintro e w3 ⟨av, rfl, hown3, hb3⟩
  have hB3 := hB2.trans (hb3.mono hB2.size)
  have hG3 := hG2.below hb3 hb2.size
  have HB3 := Lib.hid (ownsRow_below HB2.out hb3 (Nat.le_refl _))
  have HA3 := Lib.hid hown3
  have hlA0 := hown3.lt
  have hs3 := hs.below hB3 (Nat.le_refl _)
  clear hG2 hown3 HB2 hs1
  go_wp2_with fail
  refine (refbytes_any _ _ xs _ hs3 hB3.size (by omega)).mono ?_
  rintro e w4 ⟨wv, rfl, hown4, hb4⟩
  have hB4 := hB3.trans (hb4.mono hB3.size)
  have hG4 := hG3.below hb4 (by have := hb2.size; have := hb3.size; omega)
  have HB4 := Lib.hid (ownsRow_below HB3.out hb4 (Nat.le_refl _))
  have HA4 := Lib.hid (ownsRow_below HA3.out hb4 (Nat.le_refl _))
  have HW4 := Lib.hid hown4
  have hlW0 := hown4.lt
  have hgs : w1.heap.size ≤ w4.heap.size := by have := hb2.size; have := hb3.size; have := hb4.size; omega
  have h23 := hb2.size
  have h34 := hb3.size
  have h45 := hb4.size
  clear hG3 hown4 HB3 HA3 hs3 hb2 hb3 hb4
  obtain ⟨la, lc, rfl, hlc, hln, hlcell⟩ := owns_shape HB4.out
  have HLC := Lib.hid hlcell
  clear hlcell hln
  go_wp2
  go_loop [21] (fun i => ∃ k : Nat, i = .int .i64 k ∧ k ≤ xs.length) (fun i => xs.length - (intOf i).toNat)
  case atStart => exact ⟨0, rfl, Nat.zero_le _⟩
  case round =>
    obtain ⟨k, rfl, hk⟩ := hrel
    by_cases hkn : k < xs.length
    · obtain ⟨b, off, rfl, hlt, hrun⟩ := hr (by omega)
      obtain ⟨x, hxk⟩ := get_of_lt xs hkn
      have hcx : w4.cell? ⟨b, off + k, none⟩ = some (.int .i32 x) := (hB4.cell (p := ⟨b, off + k, none⟩) (by show b < w.heap.size; omega)).trans (hrun k x hxk)
      clear hxk
      go_wp2_with (first
        | (go_at_call 19; refine (width_any x _).mono ?_; rintro e w' ⟨rfl, rfl⟩)
        | (go_at_call 20; refine (widthR_any x _).mono ?_; rintro e w' ⟨rfl, rfl⟩))
      go_round
      case rel => exact ⟨k + 1, by go_num, by omega⟩
      case measure => simp [intOf]; omega
    · obtain rfl : k = xs.length := by omega
      go_wp2_with (first
        | (go_at_call 21; refine (sameB_yes w4.heap.size _ _ (encs xs) _ (slI_of_owns HB4.out (Nat.le_refl _)) (slI_of_owns HW4.out (Nat.le_refl _))).mono ?_; rintro e w' ⟨rfl, rfl⟩)
        | (go_at_call 22; refine (same_yes w4.heap.size _ _ xs _ (hG4.mono hgs) ((hs.below hB4 (Nat.le_refl _)).mono hB4.size) (by omega)).mono ?_; rintro e w5 ⟨rfl, hd5⟩))
      have HB5 := Lib.hid (ownsRow_drew HB4.out hd5)
      have HA5 := Lib.hid (ownsRow_drew HA4.out hd5)
      have HW5 := Lib.hid (ownsRow_drew HW4.out hd5)
      have hB5 := hB4.trans (hd5.below _)
      have hlB := hlB0
      have hl2 := encs_length xs
      go_loopw [43] (fun i wr => ∃ (k : Nat) (cs : List Value), i = .int .i64 k ∧ k ≤ (encs xs).length ∧ wr.ownsRow w1.heap.size 5 1 (.slice la (encs xs).length lc) (encs xs).length cs ∧ w5.grownBy wr (Value.slice la (encs xs).length lc).ownBlock) (fun i _ => (encs xs).length - (intOf i).toNat)
      case atStart => exact ⟨0, _, rfl, Nat.zero_le _, HB5.out, World.grownBy.refl _ _⟩
      case round =>
        obtain ⟨k, cs, rfl, hk, hown, hgr⟩ := hrel
        by_cases hkn : k < (encs xs).length
        · obtain ⟨g, rfl, hg1, hg2, hgc⟩ := HLC.out (by omega)
          have hc0 := hown.cellAt k (by omega)
          have hf0 := hown.frozenAt k
          have hst := hown.stored k (.int .u8 7)
          have hc1 : ∃ y, wr.cell? ⟨g, k, none⟩ = some y := ⟨_, by rw [hc0, List.getElem?_eq_getElem (by have := hown.1; omega)]⟩
          obtain ⟨y, hy⟩ := hc1
          have HS := Lib.hid hst
          have HGR := Lib.hid hgr
          clear hc0 hgc hst hown hgr
          go_wp2
          go_roundw
          case rel => exact ⟨k + 1, _, by go_num, by omega, HS.out.1, grownBy_trans HGR.out HS.out.2⟩
          case measure => simp [intOf]; omega
        · obtain rfl : k = (encs xs).length := by omega
          have hBr : Below w.heap.size w wr := hB5.grown hgr hB5.size (fun k hk => by have := (hlB k hk).1; have := hB1.size; omega)
          have hA := HA5.out.kept hgr (own_ne hlA0 hlB0 (Nat.le_refl _))
          have hW := HW5.out.kept hgr (own_ne hlW0 hlB0 (by omega))
          have HA := Lib.hid hA
          have HW := Lib.hid hW
          have HGR := Lib.hid hgr
          clear hA hW hown hgr
          go_wp2_with (first
            | (go_at_call 21; refine (sameB_yes wr.heap.size _ _ (encs xs) _ (slI_of_owns HA.out (Nat.le_refl _)) (slI_of_owns HW.out (Nat.le_refl _))).mono ?_; rintro e w' ⟨rfl, rfl⟩)
            | (go_at_call 12; refine (lives_yes _).mono ?_; rintro e w7 ⟨rfl, hb7⟩))
          go_ret
          exact ⟨rfl, hBr.trans (hb7.mono hBr.size)⟩

end Go.Proofs.Ytpbmgcnalhaajaa.utfWrites
