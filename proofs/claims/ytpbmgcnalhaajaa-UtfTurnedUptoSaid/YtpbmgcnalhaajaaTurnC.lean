/- utf.Cut and the reference's Cut. -/
import Derived.Test.YtpbmgcnalhaajaaUtfC
import Derived.Test.YtpbmgcnalhaajaaReads2
import Derived.Test.YtpbmgcnalhaajaaStep
import Derived.Test.YtpbmgcnalhaajaaCutP
namespace Go.Proofs.Ytpbmgcnalhaajaa
open Go.RowKit Go.Shelf
set_option linter.unusedVariables false
set_option linter.unusedSimpArgs false
attribute [local go_sem] Oper.semAt_some

theorem utfcut_end (v : Value) (xs : List Int) (n : Int) (w : World) {B : Nat} (hs : SlI .u8 B w v xs) (hx : xs.length ≤ 1099511627776) (hn : (xs.length : Int) ≤ n) (n1 : n ≤ 9223372036854775807) :
    Calls Try.prog 24 #[v, .int .i64 n] w fun e w' => e = .returned (.int .i64 (xs.length : Int)) ∧ Below w.heap.size w w' := by
  obtain ⟨ao, cap, rfl, hc, hn0, hr⟩ := hs
  go_enter Try.func24, Try.ntmps24
  go_wp2
  go_ret
  exact ⟨rfl, (Below.refl _ w).alloc (Nat.le_refl _) _⟩

set_option maxRecDepth 100000 in
set_option maxHeartbeats 2000000 in
theorem utfcut_go (B : Nat) (v : Value) (xs : List Int) (n : Int) (w : World) (hs : SlI .u8 B w v xs) (hB : B ≤ w.heap.size) (hb : Byt xs) (hx : xs.length ≤ 1099511627776) (hn : n < (xs.length : Int)) :
    Calls Try.prog 24 #[v, .int .i64 n] w fun e w' => e = .returned (.int .i64 (cutF n (prs xs) 0 : Nat)) ∧ Below w.heap.size w w' := by
  refine (callsIn_wide (n := 3)).1 ?_
  refine callsIn_of_wp_marks Try.func24 rfl trivial ?_ rfl
  simp only [Try.ntmps24, List.size_toArray, List.length_cons, List.length_nil, Nat.reduceAdd, Nat.reduceSub, Array.replicate_succ, Array.replicate_zero, List.push_toArray, List.append_toArray, List.nil_append, List.cons_append]
  obtain ⟨W0, hW0⟩ : ∃ W0, (w.alloc (.cells #[.int .i64 n] 3)).alloc (.cells #[.int .i64 0] 3) = W0 := ⟨_, rfl⟩
  have hsz0 : W0.heap.size = w.heap.size + 2 := by rw [← hW0]; simp
  have hb0 : Below w.heap.size w W0 := by rw [← hW0]; exact ((Below.refl _ w).alloc (Nat.le_refl _) _).alloc (by simp) _
  have bn : Boxed W0 w.heap.size 3 (.int .i64 n) := by rw [← hW0]; exact (Boxed.new w _ _).alloc _
  have bb : Boxed W0 (w.heap.size + 1) 3 (.int .i64 0) := by rw [← hW0]; have := Boxed.new (w.alloc (.cells #[.int .i64 n] 3)) 3 (.int .i64 0); simpa using this
  have hs1 : SlI .u8 B W0 v xs := hs.below hb0 hB
  have hs2 := hs
  obtain ⟨ao, cap, rfl, hc, hn0, hr⟩ := hs2
  clear hc hn0 hr
  have HW := Lib.hid hW0
  clear hW0
  gi_wp2_with fail
  rw [HW.out]
  refine ⟨trivial, ?_⟩
  refine (callsIn_wide.2 (all_any B _ xs _ hs1 (by omega) hx)).mono ?_
  rintro e w1 ⟨rfl, hbox, hsz, hbel⟩
  obtain ⟨u, hcu, hu, hlow⟩ := hbox
  rw [hsz0] at hcu hlow hsz
  have bn1 := boxed_below bn hbel (by omega)
  have bb1 := boxed_below bb hbel (by omega)
  have hB1 : Below w.heap.size w w1 := hb0.trans (hbel.mono (by omega))
  clear bn bb hs1 HW hbel hb0
  gi_wp2_with fail
  refine wpIn_rangeFunc_join rfl (by omega) (gf := 48) (lb := #[.pointer (some ⟨(w.heap.size + 2), 0, none⟩)]) rfl trivial (enters_of Try.func48 (by kernel_rfl) rfl)
    (all_stops (3 - 1) (by omega) (w.heap.size + 2) (w.heap.size + 2) w1.heap.size u xs hb hx w1 (Nat.le_refl _) hsz (fun b hb => by have := hlow b hb; omega) (Nat.le_refl _) hcu hu) keepsK_t (keepsK_b (Nat.le_refl _)) (Below.refl _ _) (fun _ => rfl)
    (fun pre W => Boxed W (w.heap.size + 1) 3 (.int .i64 (cutF n pre 0 : Nat)) ∧ Below (w.heap.size + 1) w1 W)
    (fun c pre W => c = .exit 0 ∧ (∃ x pre', pre = pre' ++ [x] ∧ n < (x.1 : Int) ∧ Boxed W (w.heap.size + 1) 3 (.int .i64 (cutF n pre' 0 : Nat))) ∧ Below (w.heap.size + 1) w1 W)
    (fun W => Boxed W (w.heap.size + 1) 3 (.int .i64 (cutF n (prs xs) 0 : Nat)) ∧ Below (w.heap.size + 1) w1 W)
    ?hI ?hIx ?h0 ?a1 ?assign ?body ?done ?stop ?join
  case assign =>
    intro l x W K hK
    have HK := Lib.hid hK
    clear hK
    simp only [encPr]
    gi_wp2
    exact HK.out
  case body =>
    rintro l pre x W ⟨hk, hbw⟩ hlt
    have ck := hk.cell
    have fk := hk.frozen
    have cn : W.cell? ⟨w.heap.size, 0, none⟩ = some (.int .i64 n) := (hbw.cell (p := ⟨w.heap.size, 0, none⟩) (by show w.heap.size < _; omega)).trans bn1.cell
    by_cases hq : n < (x.1 : Int)
    · gi_wp2
      exact ⟨(KeepsOthers.refl _).from _, rfl, ⟨x, pre, rfl, hq, hk⟩, hbw⟩
    · have he : cutF n (pre ++ [x]) 0 = x.1 := by rw [cutF_snoc, if_pos (by omega)]
      have HE := Lib.hid he
      clear he
      gi_wp2
      exact ⟨(KeepsOthers.setCell _ _ _).from _, Keeps.setCell _ _ _ _ _ (.inl (by show w.heap.size + 1 < (w.heap.size + 2); omega)), by rw [HE.out]; exact hk.set _,
        hbw.setCell (p := ⟨w.heap.size + 1, 0, none⟩) (Nat.le_refl _) _⟩
  case hI => exact OwnFrom.and (Own.from (boxed_own (w.heap.size + 1) 3 (fun pre : List (Nat × Int) => .int .i64 (cutF n pre 0 : Nat))) _) (ownFrom_below (by omega) (by omega))
  case hIx =>
    rintro c s A C row ⟨h1, ⟨x, p, h2, h2', h3⟩, h5⟩ hg hr
    exact ⟨h1, ⟨x, p, h2, h2', (boxed_own (β := Unit) (w.heap.size + 1) 3 (fun _ => .int .i64 (cutF n p 0 : Nat))) () A C row h3 hg (fun r e => (hr r e).2)⟩, ownFrom_below (β := Unit) (by omega) (by omega) () A C row h5 hg hr⟩
  case h0 => exact ⟨bb1, Below.refl _ _⟩
  case done => rintro ys W rfl ⟨h, hbw⟩; exact ⟨h, hbw⟩
  case stop =>
    rintro c pre W ⟨rest, hpre⟩ ⟨rfl, ⟨x, p, rfl, h2, h3⟩, h5⟩
    exact ⟨rfl, by rw [cutF_stop (pre := p) (rest := rest) (x := x) (by rw [← hpre]; simp) h2]; exact h3, h5⟩
  case join =>
    rintro D W hD ⟨hk, hbw⟩ hK
    have ck := hk.cell
    have hsW := hbw.size
    have hBW : Below w.heap.size w W := hB1.trans (hbw.mono (by omega))
    gi_wp2
    exact leaves_mark1 hK ⟨_, results_tmp rfl _ _ _, rfl, below_putObj hBW _ (by omega) (by omega)⟩

theorem utfcut_any (B : Nat) (v : Value) (xs : List Int) (n : Int) (w : World) (hs : SlI .u8 B w v xs) (hB : B ≤ w.heap.size) (hb : Byt xs) (hx : xs.length ≤ 1099511627776) (n1 : n ≤ 9223372036854775807) :
    Calls Try.prog 24 #[v, .int .i64 n] w fun e w' => e = .returned (.int .i64 (cutOf xs n : Nat)) ∧ Below w.heap.size w w' := by
  by_cases hn : (xs.length : Int) ≤ n
  · have e : cutOf xs n = xs.length := by unfold cutOf; rw [if_pos hn]
    rw [e]; exact utfcut_end v xs n w hs hx hn n1
  · have e : cutOf xs n = cutF n (prs xs) 0 := by unfold cutOf; rw [if_neg hn]
    rw [e]; exact utfcut_go B v xs n w hs hB hb hx (by omega)

set_option maxHeartbeats 1000000 in
theorem refcut_any (B : Nat) (v : Value) (xs : List Int) (n : Int) (w : World) (hs : SlI .u8 B w v xs) (hB : B ≤ w.heap.size) (hb : Byt xs) (hx : xs.length ≤ 1099511627776) (n1 : n ≤ 9223372036854775807) :
    Calls Try.prog 25 #[v, .int .i64 n] w fun e w' => e = .returned (.int .i64 (cutOf xs n : Nat)) ∧ Below w.heap.size w w' := by
  have hplen := pcs_length xs
  go_enter Try.func25, Try.ntmps25
  go_wp2_with fail
  refine (pieces_any _ _ xs _ hs hB hb hx).mono ?_
  rintro e w2 ⟨lv, rfl, hown2, hb2⟩
  obtain ⟨la, lc, rfl, hlc, hln, hlcell⟩ := owns_shape hown2
  have HLC := Lib.hid hlcell
  obtain ⟨ao, cap, rfl, hc, hn0, hr⟩ := hs
  clear hlcell hln hown2 hc hn0 hr
  go_wp2
  go_loopw [5, 11] (fun c i wr => ∃ k : Nat, i = .int .i64 k ∧ k ≤ (pcs xs).length ∧ c = .int .i64 (cutF n ((prs xs).take k) 0 : Nat) ∧ Below w2.heap.size w2 wr) (fun _ i _ => (pcs xs).length - (intOf i).toNat)
  case atStart => exact ⟨0, rfl, Nat.zero_le _, rfl, Below.refl _ _⟩
  case round =>
    obtain ⟨k, rfl, hk, rfl, hBw⟩ := hrel
    by_cases hkn : k < (pcs xs).length
    · obtain ⟨g, rfl, hg1, hg2, hgc⟩ := HLC.out (by omega)
      have hck : (pcs xs)[k]? = some (pcs xs)[k] := List.getElem?_eq_getElem hkn
      have hpr := prs_get hck
      have htk : (prs xs).take (k + 1) = (prs xs).take k ++ [((pcs xs)[k].pos, (pcs xs)[k].r)] := by rw [List.take_add_one, hpr]; rfl
      generalize (pcs xs)[k] = c at *
      obtain ⟨q0, q1, q2, q3⟩ := piece_cells hgc hck
      rw [← hBw.cell (p := ⟨g, k * 4, none⟩) hg2] at q0
      rw [← hBw.cell (p := ⟨g, k * 4 + 1, none⟩) hg2] at q1
      rw [← hBw.cell (p := ⟨g, k * 4 + 2, none⟩) hg2] at q2
      rw [← hBw.cell (p := ⟨g, k * 4 + 3, none⟩) hg2] at q3
      have HT := Lib.hid htk
      clear hgc hck hpr htk
      by_cases hq : (c.pos : Int) ≤ n
      · go_wp2
        go_roundw
        case rel => exact ⟨k + 1, by go_num, by omega, by rw [HT.out, cutF_snoc, if_pos hq], hBw.alloc hBw.size _⟩
        case measure => simp [intOf]; omega
      · go_wp2
        go_roundw
        case rel => exact ⟨k + 1, by go_num, by omega, by rw [HT.out, cutF_snoc, if_neg hq], hBw.alloc hBw.size _⟩
        case measure => simp [intOf]; omega
    · obtain rfl : k = (pcs xs).length := by omega
      have hfull : (prs xs).take (pcs xs).length = prs xs := List.take_of_length_le (by simp [prs])
      rw [hfull]
      clear hfull
      by_cases hn : (xs.length : Int) ≤ n
      · have e : cutOf xs n = xs.length := by unfold cutOf; rw [if_pos hn]
        have HE := Lib.hid e
        clear e
        go_wp2
        go_ret
        exact ⟨ret_intx (by rw [HE.out]), hb2.trans (hBw.mono hb2.size)⟩
      · have e : cutOf xs n = cutF n (prs xs) 0 := by unfold cutOf; rw [if_neg hn]
        have HE := Lib.hid e
        clear e
        go_wp2
        go_ret
        exact ⟨ret_intx (by rw [HE.out]), hb2.trans (hBw.mono hb2.size)⟩

end Go.Proofs.Ytpbmgcnalhaajaa
