/- utf.Place. -/
import Derived.Test.YtpbmgcnalhaajaaReads2
namespace Go.Proofs.Ytpbmgcnalhaajaa
open Go.RowKit Go.Shelf
set_option linter.unusedVariables false
set_option linter.unusedSimpArgs false
attribute [local go_sem] Oper.semAt_some

theorem ret_two {a b c d : Int} (h : (a, c) = (b, d)) : Ending.returned (.tuple #[.int .i64 a, .int .i64 c]) = .returned (.tuple #[.int .i64 b, .int .i64 d]) := by
  injection h with h1 h2; rw [h1, h2]

set_option maxRecDepth 100000 in
set_option maxHeartbeats 2000000 in
theorem place_any (B : Nat) (v : Value) (xs : List Int) (n : Int) (w : World) (hs : SlI .u8 B w v xs) (hB : B ≤ w.heap.size) (hb : Byt xs) (hx : xs.length ≤ 1099511627776) :
    Calls Try.prog 46 #[v, .int .i64 n] w fun e w' => e = .returned (.tuple #[.int .i64 (placeOf xs n).1, .int .i64 (placeOf xs n).2]) ∧ Below w.heap.size w w' := by
  have hlen := prs_length xs
  have hlen2 : (prs xs).length = (pcs xs).length := by simp [prs]
  refine (callsIn_wide (n := 3)).1 ?_
  refine callsIn_of_wp_marks Try.func46 rfl trivial ?_ rfl
  simp only [Try.ntmps46, List.size_toArray, List.length_cons, List.length_nil, Nat.reduceAdd, Nat.reduceSub, Array.replicate_succ, Array.replicate_zero, List.push_toArray, List.append_toArray, List.nil_append, List.cons_append]
  obtain ⟨W0, hW0⟩ : ∃ W0, (((w.alloc (.cells #[.int .i64 n] 3)).alloc (.cells #[.int .i64 0] 3)).alloc (.cells #[.int .i64 0] 55)).alloc (.cells #[.int .i64 0] 3) = W0 := ⟨_, rfl⟩
  have hsz0 : W0.heap.size = w.heap.size + 4 := by rw [← hW0]; simp
  have hb0 : Below w.heap.size w W0 := by rw [← hW0]; exact ((((Below.refl _ w).alloc (Nat.le_refl _) _).alloc (by simp) _).alloc (by simp; omega) _).alloc (by simp; omega) _
  have bn : Boxed W0 w.heap.size 3 (.int .i64 n) := by rw [← hW0]; exact (((Boxed.new w _ _).alloc _).alloc _).alloc _
  have ba : Boxed W0 (w.heap.size + 1) 3 (.int .i64 0) := by rw [← hW0]; have := ((Boxed.new (w.alloc (.cells #[.int .i64 n] 3)) 3 (.int .i64 0)).alloc (.cells #[.int .i64 0] 55)).alloc (.cells #[.int .i64 0] 3); simpa using this
  have be : Boxed W0 (w.heap.size + 1 + 1) 55 (.int .i64 0) := by rw [← hW0]; have := (Boxed.new ((w.alloc (.cells #[.int .i64 n] 3)).alloc (.cells #[.int .i64 0] 3)) 55 (.int .i64 0)).alloc (.cells #[.int .i64 0] 3); simpa using this
  have bk : Boxed W0 (w.heap.size + 1 + 1 + 1) 3 (.int .i64 0) := by rw [← hW0]; have := (Boxed.new (((w.alloc (.cells #[.int .i64 n] 3)).alloc (.cells #[.int .i64 0] 3)).alloc (.cells #[.int .i64 0] 55)) 3 (.int .i64 0)); simpa using this
  have hs1 : SlI .u8 B W0 v xs := hs.below hb0 hB
  have HW := Lib.hid hW0
  clear hW0
  gi_wp2_with fail
  rw [HW.out]
  refine ⟨trivial, ?_⟩
  refine (callsIn_wide.2 (all_any B v xs _ hs1 (by omega) hx)).mono ?_
  rintro e w1 ⟨rfl, hbox, hsz, hbel⟩
  obtain ⟨u, hcu, hu, hlow⟩ := hbox
  rw [hsz0] at hcu hlow hsz
  have bn1 := boxed_below bn hbel (by omega)
  have ba1 := boxed_below ba hbel (by omega)
  have be1 := boxed_below be hbel (by omega)
  have bk1 := boxed_below bk hbel (by omega)
  have hB1 : Below w.heap.size w w1 := hb0.trans (hbel.mono (by omega))
  clear bn ba be bk hs1 HW hbel hb0
  have hbase : w.heap.size + 1 + 1 + 1 < W0.heap.size := by omega
  gi_wp2_with fail
  refine wpIn_rangeFunc_ownG rfl (by omega) (gf := 48) (lb := #[.pointer (some ⟨(w.heap.size + 4), 0, none⟩)]) rfl trivial (enters_of Try.func48 (by kernel_rfl) rfl)
    (all_stops (3 - 1) (by omega) (w.heap.size + 4) (w.heap.size + 4) w1.heap.size u xs hb hx w1 (Nat.le_refl _) hsz (fun b hb => by have := hlow b hb; omega) (Nat.le_refl _) hcu hu) keepsK_t (keepsK_b (Nat.le_refl _)) (Below.refl _ _) (fun _ => rfl)
    (fun pre W => ((Boxed W (w.heap.size + 1 + 1 + 1) 3 (.int .i64 (pre.length : Int)) ∧ Boxed W (w.heap.size + 1) 3 (.int .i64 0)) ∧ Boxed W (w.heap.size + 1 + 1) 55 (.int .i64 0)) ∧ Below (w.heap.size + 1) w1 W ∧ (n < 0 ∨ (pre.length : Int) ≤ n))
    (fun c pre W => c = .ret ∧ (∃ x, pre.getLast? = some x ∧ Boxed W (w.heap.size + 1) 3 (.int .i64 (x.1 : Int))) ∧ Boxed W (w.heap.size + 1 + 1) 55 (.int .i64 0) ∧ Below (w.heap.size + 1) w1 W ∧ (pre.length : Int) = n + 1)
    ?hI ?hIx ?h0 ?a1 ?assign ?body ?done ?stop
  case assign =>
    intro l x W K hK
    have HK := Lib.hid hK
    clear hK
    simp only [encPr]
    gi_wp2
    exact HK.out
  case body =>
    rintro l pre x W ⟨⟨⟨hk, ha⟩, he⟩, hbw, hn⟩ hlt
    have ck := hk.cell
    have fk := hk.frozen
    have ca := ha.cell
    have fa := ha.frozen
    have ce := he.cell
    have fe := he.frozen
    have cn : W.cell? ⟨w.heap.size, 0, none⟩ = some (.int .i64 n) := (hbw.cell (p := ⟨w.heap.size, 0, none⟩) (by show w.heap.size < _; omega)).trans bn1.cell
    by_cases hq : (pre.length : Int) = n
    · have hq1 : ((pre.length : Int) == n) = true := by simp [hq]
      gi_wp2
      exact ⟨((KeepsOthers.setCell _ _ _).trans (KeepsOthers.setCell _ _ _)).from _, rfl, ⟨x, by simp, (ha.set _).other (by omega) _⟩, (he.other (by omega) _).set _,
        (hbw.setCell (p := ⟨w.heap.size + 1, 0, none⟩) (Nat.le_refl _) _).setCell (p := ⟨w.heap.size + 1 + 1, 0, none⟩) (by show w.heap.size + 1 ≤ w.heap.size + 1 + 1; omega) _, by simp; omega⟩
    · have hq1 : ((pre.length : Int) == n) = false := by simp [hq]
      gi_wp2
      exact ⟨(KeepsOthers.setCell _ _ _).from _, Keeps.setCell _ _ _ _ _ (.inl (by show w.heap.size + 1 + 1 + 1 < (w.heap.size + 4); omega)), ⟨⟨by have := hk.set (.int .i64 ((pre.length : Int) + 1)); simpa using this, ha.other (by omega) _⟩, he.other (by omega) _⟩,
        hbw.setCell (p := ⟨w.heap.size + 1 + 1 + 1, 0, none⟩) (by show w.heap.size + 1 ≤ w.heap.size + 1 + 1 + 1; omega) _, by simp; omega⟩
  case hI =>
    have a1 := Own.from (boxed_own (w.heap.size + 1 + 1 + 1) 3 (fun pre : List (Nat × Int) => .int .i64 (pre.length : Int))) w1.heap.size
    have a2 := Own.from (boxed_own (β := List (Nat × Int)) (w.heap.size + 1) 3 (fun _ => .int .i64 0)) w1.heap.size
    have a3 := Own.from (boxed_own (β := List (Nat × Int)) (w.heap.size + 1 + 1) 55 (fun _ => .int .i64 0)) w1.heap.size
    exact OwnFrom.and (OwnFrom.and (OwnFrom.and a1 a2) a3) (OwnFrom.and (ownFrom_below (by omega) (by omega)) (fun s W W' row hs hg hr => hs))
  case hIx =>
    rintro c s A C row ⟨h1, ⟨x, h2, h3⟩, h4, h5, h6⟩ hg hr
    exact ⟨h1, ⟨x, h2, (boxed_own (β := Unit) (w.heap.size + 1) 3 (fun _ => .int .i64 (x.1 : Int))) () A C row h3 hg (fun r e => (hr r e).2)⟩, (boxed_own (β := Unit) (w.heap.size + 1 + 1) 55 (fun _ => .int .i64 0)) () A C row h4 hg (fun r e => (hr r e).2), ownFrom_below (β := Unit) (by omega) (by omega) () A C row h5 hg hr, h6⟩
  case h0 => exact ⟨⟨⟨bk1, ba1⟩, be1⟩, Below.refl _ _, by simp; omega⟩
  case done =>
    rintro D ys W hD rfl ⟨⟨⟨hk, ha⟩, he⟩, hbw, hn⟩ hK
    have ck := hk.cell
    have ca := ha.cell
    have fa := ha.frozen
    have ce := he.cell
    have fe := he.frozen
    have cn : W.cell? ⟨w.heap.size, 0, none⟩ = some (.int .i64 n) := (hbw.cell (p := ⟨w.heap.size, 0, none⟩) (by show w.heap.size < _; omega)).trans bn1.cell
    have hBW : Below w.heap.size w W := hB1.trans (hbw.mono (by omega))
    have hsW := hbw.size
    have fin : ∀ (a e : Int) (W' : World), W' = (W.setCell ⟨w.heap.size + 1, 0, none⟩ (.int .i64 a)).setCell ⟨w.heap.size + 1 + 1, 0, none⟩ (.int .i64 e) →
        W'.heap[D]? = some (.deferred (some [])) ∧ Boxed (W'.putObj D (.deferred none)) (w.heap.size + 1) 3 (.int .i64 a) ∧ Boxed (W'.putObj D (.deferred none)) (w.heap.size + 1 + 1) 55 (.int .i64 e) ∧ Below w.heap.size w (W'.putObj D (.deferred none)) := by
      rintro a e W' rfl
      refine ⟨?_, boxed_putObj ((ha.set _).other (by omega) _) _ (by omega), boxed_putObj ((he.other (by omega) _).set _) _ (by omega), below_putObj ((hBW.setCell (p := ⟨w.heap.size + 1, 0, none⟩) (by show w.heap.size ≤ w.heap.size + 1; omega) _).setCell (p := ⟨w.heap.size + 1 + 1, 0, none⟩) (by show w.heap.size ≤ w.heap.size + 1 + 1; omega) _) _ (by omega) (by simp; omega)⟩
      rw [Below.heap_setCell _ _ _ _ (by show D ≠ w.heap.size + 1 + 1; omega), Below.heap_setCell _ _ _ _ (by show D ≠ w.heap.size + 1; omega)]
      exact hK
    by_cases hq : ((prs xs).length : Int) = n
    · have hq1 : (((prs xs).length : Int) == n) = true := by simp [hq]
      obtain ⟨g1, g2, g3, g4⟩ := fin (xs.length : Int) 0 _ rfl
      have hp : placeOf xs n = ((xs.length : Int), 0) := by unfold placeOf; rw [if_neg (by omega), if_pos (by omega)]
      obtain ⟨ao, cap, rfl, _, _, _⟩ := hs
      have HP := Lib.hid hp
      clear fin hp
      gi_wp2
      refine leaves_mark1 g1 ⟨_, results_box2 rfl Try.underlying3 Try.underlying55 rfl g2 rfl g3, by rw [HP.out], g4⟩
    · have hq1 : (((prs xs).length : Int) == n) = false := by simp [hq]
      obtain ⟨g1, g2, g3, g4⟩ := fin 0 10 _ rfl
      have hp : placeOf xs n = (0, 10) := by unfold placeOf; rw [if_neg (by omega), if_neg (by omega)]
      have HP := Lib.hid hp
      clear fin hp
      gi_wp2
      refine leaves_mark1 g1 ⟨_, results_box2 rfl Try.underlying3 Try.underlying55 rfl g2 rfl g3, by rw [HP.out], g4⟩
  case stop =>
    rintro D c pre W hD hpre ⟨rfl, ⟨x, h2, h3⟩, h4, h5, h6⟩ hK
    have hsW := h5.size
    have hBW : Below w.heap.size w W := hB1.trans (h5.mono (by omega))
    obtain ⟨rr, hrr⟩ := hpre
    have hlp : pre.length ≤ (prs xs).length := by rw [← hrr]; simp
    have hpl : 0 < pre.length := by
      cases pre with
      | nil => simp at h2
      | cons => simp
    have hx0 : (prs xs)[n.toNat]? = some x := by
      rw [← hrr, List.getElem?_append_left (by omega)]
      rw [List.getLast?_eq_getElem?] at h2
      rw [show n.toNat = pre.length - 1 from by omega]; exact h2
    have hps : ((pcs xs).map Pc.pos)[n.toNat]? = some x.1 := by
      have := congrArg (Option.map Prod.fst) hx0
      simpa [prs, pcPair, List.getElem?_map, Option.map_map, Function.comp_def] using this
    have hp : placeOf xs n = ((x.1 : Int), 0) := by unfold placeOf; rw [if_pos (by omega), hps]; rfl
    have b1 := boxed_putObj h3 (l := D) (.deferred none) (by omega)
    have b2 := boxed_putObj h4 (l := D) (.deferred none) (by omega)
    have b3 := below_putObj hBW (l := D) (.deferred none) (by omega) (by omega)
    gi_wp2
    refine leaves_mark1 hK ⟨_, results_box2 rfl Try.underlying3 Try.underlying55 rfl b1 rfl b2, by rw [hp], b3⟩

end Go.Proofs.Ytpbmgcnalhaajaa
