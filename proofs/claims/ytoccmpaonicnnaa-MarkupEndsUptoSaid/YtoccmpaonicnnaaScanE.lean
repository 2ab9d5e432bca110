/- markup.Scanner.Put, by its ways. (written by gen_put.py) -/
import Derived.Test.YtoccmpaonicnnaaScanD
import Derived.ScopeJumps
namespace Go.Proofs.Ytoccmpaonicnnaa
open Go.RowKit
set_option linter.unusedVariables false
set_option linter.unusedSimpArgs false

/-- a scope with a label that the run may jump to, forward alone -/
theorem wp_scope_fwd {P : Program} {a : Act} {w : World} {Q : Exit → Act → World → Prop} {c rest : Code} (l : Nat) (hf : findLabel c l = some rest)
    (first : c.wp P (Exit.jump l (fun a w => rest.wp P (Exit.noGoto Q) a w) Q) a w) : (Code.scope c).wp P Q a w :=
  wp_scope_jumps l (fun a w => rest.wp P (Exit.noGoto Q) a w) (fun _ _ => 0) hf first
    (fun a w hJ => Code.wp_mono (fun e a w h => by cases e <;> first | exact h | exact (h : False).elim) hJ)

set_option maxHeartbeats 2000000 in
theorem put_bad (D base : Nat) (k : Int) (tv : Value) (t : Int) (r : Int) (l : List Int) (w : World) (hD : ScAt w D k tv t false) (hown : w.ownsRow base 21 1 tv l.length (l.map (Value.int .i32))) (hDb : D < base) (hbase : base ≤ w.heap.size) (hx : l.length + 1 ≤ 1099511627776)
    (hw : Hid (widthOf r = 3)) (hs : ((Utf8.encode r).toList == [239, 191, 189]) = true) :
    Calls Try.prog 14 #[.pointer (some ⟨D, 0, none⟩), .int .i32 r] w fun e w' => ∃ tv', e = .returned (.tuple #[.bool false, .int .i64 0]) ∧ ScAt w' D k tv' t false ∧
      w'.ownsRow base 21 1 tv' (l.length + 1) ((l ++ [65533]).map (Value.int .i32)) ∧ Frm (fun i => i = D ∨ tv.ownBlock = some i) w w' := by
  obtain ⟨i0, hi, hz0, hz1, hz2⟩ := info_parts Try.infoI32
  obtain ⟨c0, c1, c2, c3, c4, f1, f2, f4⟩ := hD.cells
  have hDl := hD.lt
  have hne : tv.ownBlock ≠ some D := fun e => by have := (hown.lt D e).1; omega
  have HNE := Lib.hid hne
  clear hne
  go_enter Try.func14, Try.ntmps14
  go_wp2
  refine wp_scope_fwd 0 rfl ?_
  go_wp2_with (first
    | (go_at_call 27; refine (sready_is D k tv t false 0 _ hD (Lib.hid rfl)).mono ?_; rintro e w' ⟨rfl, rfl⟩)
    | (go_at_call 28; refine (width_any r _).mono ?_; rw [hw.out]; rintro e w' ⟨rfl, rfl⟩)
    | (at_builtin; refine wpList_append_own _ rfl _ _ 32 rfl base 21 i0 (.int .i32 0) 1 4 Try.underlying32 hi hz0 hz1 hz2 rfl (by decide) _ l.length _ rfl (hown.alloc _) ⟨w.heap.size, 0, none⟩ 1 1 [.int .i32 65533] rfl rfl ?c1 ?c2 ?c3 ?c4 ?c5 ?_))
  case c1 => exact cells_news _ _ _
  case c2 => intro u hu; simp at hu; subst hu; rfl
  case c3 => unfold maxLen; omega
  case c4 => omega
  case c5 => simp; omega
  intro v' w2 hown2 hgrow2 _
  obtain ⟨g', cap', rfl⟩ := ownsRow_succ hown2
  have hD2 : ScAt w2 D k tv t false := hD.of ((hgrow2.block D (by simp; omega) (fun e => HNE.out e.symm)).trans (Below.heap_alloc _ _ _ (by omega)))
  have hf2 : Frm (fun i => i = D ∨ tv.ownBlock = some i) w w2 := (Frm.of_below ((Below.refl w.heap.size w).alloc (Nat.le_refl _) _)).trans (Frm.of_grown (S := fun i => i = D ∨ tv.ownBlock = some i) hgrow2 (fun k hk => .inr hk)) (fun _ _ h => h)
  have hown2' : w2.ownsRow base 21 1 (.slice (some ⟨g', 0, none⟩) (l.length + 1) cap') (l.length + 1) ((l ++ [65533]).map (Value.int .i32)) := by simpa using hown2
  have hD3 := hD2.set1 (.slice (some ⟨g', 0, none⟩) (l.length + 1) cap')
  have hfs : Frm (fun i => i = D ∨ tv.ownBlock = some i) w2 (w2.setCell ⟨D, 1, none⟩ (.slice (some ⟨g', 0, none⟩) (l.length + 1) cap')) := Frm.setCell _ _ _ (.inl rfl)
  have hf3 := hf2.trans hfs (fun _ _ h => h)
  have hown3 : (w2.setCell ⟨D, 1, none⟩ (.slice (some ⟨g', 0, none⟩) (l.length + 1) cap')).ownsRow base 21 1 (.slice (some ⟨g', 0, none⟩) (l.length + 1) cap') (l.length + 1) ((l ++ [65533]).map (Value.int .i32)) :=
    ownsRow_frm hown2' (Frm.setCell (S := fun i => i = D) _ _ _ rfl) (fun k hk e => by subst e; have := (hown2'.lt _ hk).1; omega)
  have HO3 := Lib.hid hown3
  have hw2l := hf2.size
  clear c0 c1 c2 c3 c4 f1 f2 f4 hown hown2 hown2' hown3 hgrow2 hf2 hfs hD
  obtain ⟨c0, c1, c2, c3, c4, f1, f2, f4⟩ := hD2.cells
  go_wp2
  go_step3
  refine ⟨rfl, ?_⟩
  go_wp2
  rw [Exit.noGoto_ret]
  go_ret2
  exact ⟨_, rfl, hD3, HO3.out, hf3⟩

set_option maxHeartbeats 2000000 in
theorem put_three (D base : Nat) (k : Int) (tv : Value) (t : Int) (r : Int) (l : List Int) (w : World) (hD : ScAt w D k tv t false) (hown : w.ownsRow base 21 1 tv l.length (l.map (Value.int .i32))) (hDb : D < base) (hbase : base ≤ w.heap.size) (hx : l.length + 1 ≤ 1099511627776)
    (hw : Hid (widthOf r = 3)) (hs : ((Utf8.encode r).toList == [239, 191, 189]) = false) (hr : (r != 62) = true) :
    Calls Try.prog 14 #[.pointer (some ⟨D, 0, none⟩), .int .i32 r] w fun e w' => ∃ tv', e = .returned (.tuple #[.bool false, .int .i64 0]) ∧ ScAt w' D k tv' t false ∧
      w'.ownsRow base 21 1 tv' (l.length + 1) ((l ++ [r]).map (Value.int .i32)) ∧ Frm (fun i => i = D ∨ tv.ownBlock = some i) w w' := by
  obtain ⟨i0, hi, hz0, hz1, hz2⟩ := info_parts Try.infoI32
  obtain ⟨c0, c1, c2, c3, c4, f1, f2, f4⟩ := hD.cells
  have hDl := hD.lt
  have hne : tv.ownBlock ≠ some D := fun e => by have := (hown.lt D e).1; omega
  have HNE := Lib.hid hne
  clear hne
  go_enter Try.func14, Try.ntmps14
  go_wp2
  refine wp_scope_fwd 0 rfl ?_
  go_wp2_with (first
    | (go_at_call 27; refine (sready_is D k tv t false 0 _ hD (Lib.hid rfl)).mono ?_; rintro e w' ⟨rfl, rfl⟩)
    | (go_at_call 28; refine (width_any r _).mono ?_; rw [hw.out]; rintro e w' ⟨rfl, rfl⟩)
    | (at_builtin; refine wpList_append_own _ rfl _ _ 32 rfl base 21 i0 (.int .i32 0) 1 4 Try.underlying32 hi hz0 hz1 hz2 rfl (by decide) _ l.length _ rfl (hown.alloc _) ⟨w.heap.size, 0, none⟩ 1 1 [.int .i32 r] rfl rfl ?c1 ?c2 ?c3 ?c4 ?c5 ?_))
  case c1 => exact cells_news _ _ _
  case c2 => intro u hu; simp at hu; subst hu; rfl
  case c3 => unfold maxLen; omega
  case c4 => omega
  case c5 => simp; omega
  intro v' w2 hown2 hgrow2 _
  obtain ⟨g', cap', rfl⟩ := ownsRow_succ hown2
  have hD2 : ScAt w2 D k tv t false := hD.of ((hgrow2.block D (by simp; omega) (fun e => HNE.out e.symm)).trans (Below.heap_alloc _ _ _ (by omega)))
  have hf2 : Frm (fun i => i = D ∨ tv.ownBlock = some i) w w2 := (Frm.of_below ((Below.refl w.heap.size w).alloc (Nat.le_refl _) _)).trans (Frm.of_grown (S := fun i => i = D ∨ tv.ownBlock = some i) hgrow2 (fun k hk => .inr hk)) (fun _ _ h => h)
  have hown2' : w2.ownsRow base 21 1 (.slice (some ⟨g', 0, none⟩) (l.length + 1) cap') (l.length + 1) ((l ++ [r]).map (Value.int .i32)) := by simpa using hown2
  have hD3 := hD2.set1 (.slice (some ⟨g', 0, none⟩) (l.length + 1) cap')
  have hfs : Frm (fun i => i = D ∨ tv.ownBlock = some i) w2 (w2.setCell ⟨D, 1, none⟩ (.slice (some ⟨g', 0, none⟩) (l.length + 1) cap')) := Frm.setCell _ _ _ (.inl rfl)
  have hf3 := hf2.trans hfs (fun _ _ h => h)
  have hown3 : (w2.setCell ⟨D, 1, none⟩ (.slice (some ⟨g', 0, none⟩) (l.length + 1) cap')).ownsRow base 21 1 (.slice (some ⟨g', 0, none⟩) (l.length + 1) cap') (l.length + 1) ((l ++ [r]).map (Value.int .i32)) :=
    ownsRow_frm hown2' (Frm.setCell (S := fun i => i = D) _ _ _ rfl) (fun k hk e => by subst e; have := (hown2'.lt _ hk).1; omega)
  have HO3 := Lib.hid hown3
  have hw2l := hf2.size
  clear c0 c1 c2 c3 c4 f1 f2 f4 hown hown2 hown2' hown3 hgrow2 hf2 hfs hD
  obtain ⟨c0, c1, c2, c3, c4, f1, f2, f4⟩ := hD2.cells
  go_wp2
  go_step3
  refine ⟨rfl, ?_⟩
  go_wp2
  rw [Exit.noGoto_ret]
  go_ret2
  exact ⟨_, rfl, hD3, HO3.out, hf3⟩

set_option maxHeartbeats 2000000 in
theorem put_plain (D base : Nat) (k : Int) (tv : Value) (t : Int) (r : Int) (l : List Int) (w : World) (hD : ScAt w D k tv t false) (hown : w.ownsRow base 21 1 tv l.length (l.map (Value.int .i32))) (hDb : D < base) (hbase : base ≤ w.heap.size) (hx : l.length + 1 ≤ 1099511627776)
    (N : Int) (hw : Hid (widthOf r = N)) (hN : (N == 3) = false) (hr : (r != 62) = true) :
    Calls Try.prog 14 #[.pointer (some ⟨D, 0, none⟩), .int .i32 r] w fun e w' => ∃ tv', e = .returned (.tuple #[.bool false, .int .i64 0]) ∧ ScAt w' D k tv' t false ∧
      w'.ownsRow base 21 1 tv' (l.length + 1) ((l ++ [r]).map (Value.int .i32)) ∧ Frm (fun i => i = D ∨ tv.ownBlock = some i) w w' := by
  obtain ⟨i0, hi, hz0, hz1, hz2⟩ := info_parts Try.infoI32
  obtain ⟨c0, c1, c2, c3, c4, f1, f2, f4⟩ := hD.cells
  have hDl := hD.lt
  have hne : tv.ownBlock ≠ some D := fun e => by have := (hown.lt D e).1; omega
  have HNE := Lib.hid hne
  clear hne
  go_enter Try.func14, Try.ntmps14
  go_wp2
  refine wp_scope_fwd 0 rfl ?_
  go_wp2_with (first
    | (go_at_call 27; refine (sready_is D k tv t false 0 _ hD (Lib.hid rfl)).mono ?_; rintro e w' ⟨rfl, rfl⟩)
    | (go_at_call 28; refine (width_any r _).mono ?_; rw [hw.out]; rintro e w' ⟨rfl, rfl⟩)
    | (at_builtin; refine wpList_append_own _ rfl _ _ 32 rfl base 21 i0 (.int .i32 0) 1 4 Try.underlying32 hi hz0 hz1 hz2 rfl (by decide) _ l.length _ rfl (hown.alloc _) ⟨w.heap.size, 0, none⟩ 1 1 [.int .i32 r] rfl rfl ?c1 ?c2 ?c3 ?c4 ?c5 ?_))
  case c1 => exact cells_news _ _ _
  case c2 => intro u hu; simp at hu; subst hu; rfl
  case c3 => unfold maxLen; omega
  case c4 => omega
  case c5 => simp; omega
  intro v' w2 hown2 hgrow2 _
  obtain ⟨g', cap', rfl⟩ := ownsRow_succ hown2
  have hD2 : ScAt w2 D k tv t false := hD.of ((hgrow2.block D (by simp; omega) (fun e => HNE.out e.symm)).trans (Below.heap_alloc _ _ _ (by omega)))
  have hf2 : Frm (fun i => i = D ∨ tv.ownBlock = some i) w w2 := (Frm.of_below ((Below.refl w.heap.size w).alloc (Nat.le_refl _) _)).trans (Frm.of_grown (S := fun i => i = D ∨ tv.ownBlock = some i) hgrow2 (fun k hk => .inr hk)) (fun _ _ h => h)
  have hown2' : w2.ownsRow base 21 1 (.slice (some ⟨g', 0, none⟩) (l.length + 1) cap') (l.length + 1) ((l ++ [r]).map (Value.int .i32)) := by simpa using hown2
  have hD3 := hD2.set1 (.slice (some ⟨g', 0, none⟩) (l.length + 1) cap')
  have hfs : Frm (fun i => i = D ∨ tv.ownBlock = some i) w2 (w2.setCell ⟨D, 1, none⟩ (.slice (some ⟨g', 0, none⟩) (l.length + 1) cap')) := Frm.setCell _ _ _ (.inl rfl)
  have hf3 := hf2.trans hfs (fun _ _ h => h)
  have hown3 : (w2.setCell ⟨D, 1, none⟩ (.slice (some ⟨g', 0, none⟩) (l.length + 1) cap')).ownsRow base 21 1 (.slice (some ⟨g', 0, none⟩) (l.length + 1) cap') (l.length + 1) ((l ++ [r]).map (Value.int .i32)) :=
    ownsRow_frm hown2' (Frm.setCell (S := fun i => i = D) _ _ _ rfl) (fun k hk e => by subst e; have := (hown2'.lt _ hk).1; omega)
  have HO3 := Lib.hid hown3
  have hw2l := hf2.size
  clear c0 c1 c2 c3 c4 f1 f2 f4 hown hown2 hown2' hown3 hgrow2 hf2 hfs hD
  obtain ⟨c0, c1, c2, c3, c4, f1, f2, f4⟩ := hD2.cells
  go_wp2
  go_step3
  refine ⟨rfl, ?_⟩
  go_wp2
  rw [Exit.noGoto_ret]
  go_ret2
  exact ⟨_, rfl, hD3, HO3.out, hf3⟩

set_option maxHeartbeats 2000000 in
theorem put_gt1 (D base : Nat) (tv : Value) (t : Int) (l : List Int) (w : World) (hD : ScAt w D 1 tv t false) (hown : w.ownsRow base 21 1 tv l.length (l.map (Value.int .i32))) (hDb : D < base) (hbase : base ≤ w.heap.size) (hx : l.length + 1 ≤ 1099511627776)
    (hk : True) :
    Calls Try.prog 14 #[.pointer (some ⟨D, 0, none⟩), .int .i32 62] w fun e w' => ∃ tv', e = .returned (.tuple #[.bool true, .int .i64 0]) ∧ ScAt w' D 1 tv' 1 true ∧
      w'.ownsRow base 21 1 tv' (l.length + 1) ((l ++ [62]).map (Value.int .i32)) ∧ Frm (fun i => i = D ∨ tv.ownBlock = some i) w w' := by
  obtain ⟨i0, hi, hz0, hz1, hz2⟩ := info_parts Try.infoI32
  obtain ⟨c0, c1, c2, c3, c4, f1, f2, f4⟩ := hD.cells
  have hDl := hD.lt
  have hne : tv.ownBlock ≠ some D := fun e => by have := (hown.lt D e).1; omega
  have HNE := Lib.hid hne
  clear hne
  go_enter Try.func14, Try.ntmps14
  go_wp2
  go_step3
  go_wp2_with (first
    | (go_at_call 27; refine (sready_is D 1 tv t false 0 _ hD (Lib.hid rfl)).mono ?_; rintro e w' ⟨rfl, rfl⟩)
    | (go_at_call 28; refine (width_any 62 _).mono ?_; rw [(show widthOf 62 = 1 by decide +kernel)]; rintro e w' ⟨rfl, rfl⟩)
    | (at_builtin; refine wpList_append_own _ rfl _ _ 32 rfl base 21 i0 (.int .i32 0) 1 4 Try.underlying32 hi hz0 hz1 hz2 rfl (by decide) _ l.length _ rfl (hown.alloc _) ⟨w.heap.size, 0, none⟩ 1 1 [.int .i32 62] rfl rfl ?c1 ?c2 ?c3 ?c4 ?c5 ?_))
  case c1 => exact cells_news _ _ _
  case c2 => intro u hu; simp at hu; subst hu; rfl
  case c3 => unfold maxLen; omega
  case c4 => omega
  case c5 => simp; omega
  intro v' w2 hown2 hgrow2 _
  obtain ⟨g', cap', rfl⟩ := ownsRow_succ hown2
  have hD2 : ScAt w2 D 1 tv t false := hD.of ((hgrow2.block D (by simp; omega) (fun e => HNE.out e.symm)).trans (Below.heap_alloc _ _ _ (by omega)))
  have hf2 : Frm (fun i => i = D ∨ tv.ownBlock = some i) w w2 := (Frm.of_below ((Below.refl w.heap.size w).alloc (Nat.le_refl _) _)).trans (Frm.of_grown (S := fun i => i = D ∨ tv.ownBlock = some i) hgrow2 (fun k hk => .inr hk)) (fun _ _ h => h)
  have hown2' : w2.ownsRow base 21 1 (.slice (some ⟨g', 0, none⟩) (l.length + 1) cap') (l.length + 1) ((l ++ [62]).map (Value.int .i32)) := by simpa using hown2
  have hD3 := hD2.set1 (.slice (some ⟨g', 0, none⟩) (l.length + 1) cap')
  have hfs : Frm (fun i => i = D ∨ tv.ownBlock = some i) w2 (w2.setCell ⟨D, 1, none⟩ (.slice (some ⟨g', 0, none⟩) (l.length + 1) cap')) := Frm.setCell _ _ _ (.inl rfl)
  have hf3 := hf2.trans hfs (fun _ _ h => h)
  have hown3 : (w2.setCell ⟨D, 1, none⟩ (.slice (some ⟨g', 0, none⟩) (l.length + 1) cap')).ownsRow base 21 1 (.slice (some ⟨g', 0, none⟩) (l.length + 1) cap') (l.length + 1) ((l ++ [62]).map (Value.int .i32)) :=
    ownsRow_frm hown2' (Frm.setCell (S := fun i => i = D) _ _ _ rfl) (fun k hk e => by subst e; have := (hown2'.lt _ hk).1; omega)
  have HO3 := Lib.hid hown3
  have hw2l := hf2.size
  clear c0 c1 c2 c3 c4 f1 f2 f4 hown hown2 hown2' hown3 hgrow2 hf2 hfs hD
  obtain ⟨c0, c1, c2, c3, c4, f1, f2, f4⟩ := hD2.cells
  obtain ⟨d0, d1, d2, d3, d4, e1, e2, e4⟩ := hD3.cells
  have hD4 := hD3.set2 1
  obtain ⟨g0, g1, g2, g3, g4, k1, k2, k4⟩ := hD4.cells
  have hf4 : Frm (fun i => i = D ∨ tv.ownBlock = some i) w2 _ := ((Frm.setCell (S := fun i => i = D ∨ tv.ownBlock = some i) w2 ⟨D, 1, none⟩ (.slice (some ⟨g', 0, none⟩) (l.length + 1) cap') (.inl rfl)).trans (Frm.setCell (S := fun i => i = D ∨ tv.ownBlock = some i) _ ⟨D, 2, none⟩ (.int .i64 1) (.inl rfl)) (fun _ _ h => h))
  go_wp2
  rw [Exit.noGoto_ret]
  go_ret2
  refine ⟨_, rfl, hD4.set4 true, ownsRow_frm HO3.out ((Frm.setCell (S := fun i => i = D) _ ⟨D, 2, none⟩ _ rfl).trans (Frm.setCell (S := fun i => i = D) _ ⟨D, 4, none⟩ _ rfl) (fun _ _ h => h)) (fun k hk e => by subst e; have := (HO3.out.lt _ hk).1; omega), ?_⟩
  exact (hf3.trans (Frm.setCell (S := fun i => i = D ∨ tv.ownBlock = some i) _ ⟨D, 2, none⟩ _ (.inl rfl)) (fun _ _ h => h)).trans (Frm.setCell (S := fun i => i = D ∨ tv.ownBlock = some i) _ ⟨D, 4, none⟩ _ (.inl rfl)) (fun _ _ h => h)

set_option maxHeartbeats 2000000 in
theorem put_gt2 (D base : Nat) (tv : Value) (t : Int) (l : List Int) (w : World) (hD : ScAt w D 2 tv t false) (hown : w.ownsRow base 21 1 tv l.length (l.map (Value.int .i32))) (hDb : D < base) (hbase : base ≤ w.heap.size) (hx : l.length + 1 ≤ 1099511627776)
    (hk : True) :
    Calls Try.prog 14 #[.pointer (some ⟨D, 0, none⟩), .int .i32 62] w fun e w' => ∃ tv', e = .returned (.tuple #[.bool true, .int .i64 0]) ∧ ScAt w' D 2 tv' 1 true ∧
      w'.ownsRow base 21 1 tv' (l.length + 1) ((l ++ [62]).map (Value.int .i32)) ∧ Frm (fun i => i = D ∨ tv.ownBlock = some i) w w' := by
  obtain ⟨i0, hi, hz0, hz1, hz2⟩ := info_parts Try.infoI32
  obtain ⟨c0, c1, c2, c3, c4, f1, f2, f4⟩ := hD.cells
  have hDl := hD.lt
  have hne : tv.ownBlock ≠ some D := fun e => by have := (hown.lt D e).1; omega
  have HNE := Lib.hid hne
  clear hne
  go_enter Try.func14, Try.ntmps14
  go_wp2
  go_step3
  go_wp2_with (first
    | (go_at_call 27; refine (sready_is D 2 tv t false 0 _ hD (Lib.hid rfl)).mono ?_; rintro e w' ⟨rfl, rfl⟩)
    | (go_at_call 28; refine (width_any 62 _).mono ?_; rw [(show widthOf 62 = 1 by decide +kernel)]; rintro e w' ⟨rfl, rfl⟩)
    | (at_builtin; refine wpList_append_own _ rfl _ _ 32 rfl base 21 i0 (.int .i32 0) 1 4 Try.underlying32 hi hz0 hz1 hz2 rfl (by decide) _ l.length _ rfl (hown.alloc _) ⟨w.heap.size, 0, none⟩ 1 1 [.int .i32 62] rfl rfl ?c1 ?c2 ?c3 ?c4 ?c5 ?_))
  case c1 => exact cells_news _ _ _
  case c2 => intro u hu; simp at hu; subst hu; rfl
  case c3 => unfold maxLen; omega
  case c4 => omega
  case c5 => simp; omega
  intro v' w2 hown2 hgrow2 _
  obtain ⟨g', cap', rfl⟩ := ownsRow_succ hown2
  have hD2 : ScAt w2 D 2 tv t false := hD.of ((hgrow2.block D (by simp; omega) (fun e => HNE.out e.symm)).trans (Below.heap_alloc _ _ _ (by omega)))
  have hf2 : Frm (fun i => i = D ∨ tv.ownBlock = some i) w w2 := (Frm.of_below ((Below.refl w.heap.size w).alloc (Nat.le_refl _) _)).trans (Frm.of_grown (S := fun i => i = D ∨ tv.ownBlock = some i) hgrow2 (fun k hk => .inr hk)) (fun _ _ h => h)
  have hown2' : w2.ownsRow base 21 1 (.slice (some ⟨g', 0, none⟩) (l.length + 1) cap') (l.length + 1) ((l ++ [62]).map (Value.int .i32)) := by simpa using hown2
  have hD3 := hD2.set1 (.slice (some ⟨g', 0, none⟩) (l.length + 1) cap')
  have hfs : Frm (fun i => i = D ∨ tv.ownBlock = some i) w2 (w2.setCell ⟨D, 1, none⟩ (.slice (some ⟨g', 0, none⟩) (l.length + 1) cap')) := Frm.setCell _ _ _ (.inl rfl)
  have hf3 := hf2.trans hfs (fun _ _ h => h)
  have hown3 : (w2.setCell ⟨D, 1, none⟩ (.slice (some ⟨g', 0, none⟩) (l.length + 1) cap')).ownsRow base 21 1 (.slice (some ⟨g', 0, none⟩) (l.length + 1) cap') (l.length + 1) ((l ++ [62]).map (Value.int .i32)) :=
    ownsRow_frm hown2' (Frm.setCell (S := fun i => i = D) _ _ _ rfl) (fun k hk e => by subst e; have := (hown2'.lt _ hk).1; omega)
  have HO3 := Lib.hid hown3
  have hw2l := hf2.size
  clear c0 c1 c2 c3 c4 f1 f2 f4 hown hown2 hown2' hown3 hgrow2 hf2 hfs hD
  obtain ⟨c0, c1, c2, c3, c4, f1, f2, f4⟩ := hD2.cells
  obtain ⟨d0, d1, d2, d3, d4, e1, e2, e4⟩ := hD3.cells
  have hD4 := hD3.set2 1
  obtain ⟨g0, g1, g2, g3, g4, k1, k2, k4⟩ := hD4.cells
  have hf4 : Frm (fun i => i = D ∨ tv.ownBlock = some i) w2 _ := ((Frm.setCell (S := fun i => i = D ∨ tv.ownBlock = some i) w2 ⟨D, 1, none⟩ (.slice (some ⟨g', 0, none⟩) (l.length + 1) cap') (.inl rfl)).trans (Frm.setCell (S := fun i => i = D ∨ tv.ownBlock = some i) _ ⟨D, 2, none⟩ (.int .i64 1) (.inl rfl)) (fun _ _ h => h))
  go_wp2
  rw [Exit.noGoto_ret]
  go_ret2
  refine ⟨_, rfl, hD4.set4 true, ownsRow_frm HO3.out ((Frm.setCell (S := fun i => i = D) _ ⟨D, 2, none⟩ _ rfl).trans (Frm.setCell (S := fun i => i = D) _ ⟨D, 4, none⟩ _ rfl) (fun _ _ h => h)) (fun k hk e => by subst e; have := (HO3.out.lt _ hk).1; omega), ?_⟩
  exact (hf3.trans (Frm.setCell (S := fun i => i = D ∨ tv.ownBlock = some i) _ ⟨D, 2, none⟩ _ (.inl rfl)) (fun _ _ h => h)).trans (Frm.setCell (S := fun i => i = D ∨ tv.ownBlock = some i) _ ⟨D, 4, none⟩ _ (.inl rfl)) (fun _ _ h => h)

set_option maxHeartbeats 2000000 in
theorem put_gt0n (D base : Nat) (tv : Value) (t : Int) (l : List Int) (w : World) (hD : ScAt w D 0 tv t false) (hown : w.ownsRow base 21 1 tv l.length (l.map (Value.int .i32))) (hDb : D < base) (hbase : base ≤ w.heap.size) (hx : l.length + 1 ≤ 1099511627776)
    (he : Hid (endN (l ++ [62]) = 0)) :
    Calls Try.prog 14 #[.pointer (some ⟨D, 0, none⟩), .int .i32 62] w fun e w' => ∃ tv', e = .returned (.tuple #[.bool false, .int .i64 0]) ∧ ScAt w' D 0 tv' 0 false ∧
      w'.ownsRow base 21 1 tv' (l.length + 1) ((l ++ [62]).map (Value.int .i32)) ∧ Frm (fun i => i = D ∨ tv.ownBlock = some i) w w' := by
  obtain ⟨i0, hi, hz0, hz1, hz2⟩ := info_parts Try.infoI32
  obtain ⟨c0, c1, c2, c3, c4, f1, f2, f4⟩ := hD.cells
  have hDl := hD.lt
  have hne : tv.ownBlock ≠ some D := fun e => by have := (hown.lt D e).1; omega
  have HNE := Lib.hid hne
  clear hne
  go_enter Try.func14, Try.ntmps14
  go_wp2
  refine wp_scope_fwd 0 rfl ?_
  go_wp2_with (first
    | (go_at_call 27; refine (sready_is D 0 tv t false 0 _ hD (Lib.hid rfl)).mono ?_; rintro e w' ⟨rfl, rfl⟩)
    | (go_at_call 28; refine (width_any 62 _).mono ?_; rw [(show widthOf 62 = 1 by decide +kernel)]; rintro e w' ⟨rfl, rfl⟩)
    | (at_builtin; refine wpList_append_own _ rfl _ _ 32 rfl base 21 i0 (.int .i32 0) 1 4 Try.underlying32 hi hz0 hz1 hz2 rfl (by decide) _ l.length _ rfl (hown.alloc _) ⟨w.heap.size, 0, none⟩ 1 1 [.int .i32 62] rfl rfl ?c1 ?c2 ?c3 ?c4 ?c5 ?_))
  case c1 => exact cells_news _ _ _
  case c2 => intro u hu; simp at hu; subst hu; rfl
  case c3 => unfold maxLen; omega
  case c4 => omega
  case c5 => simp; omega
  intro v' w2 hown2 hgrow2 _
  obtain ⟨g', cap', rfl⟩ := ownsRow_succ hown2
  have hD2 : ScAt w2 D 0 tv t false := hD.of ((hgrow2.block D (by simp; omega) (fun e => HNE.out e.symm)).trans (Below.heap_alloc _ _ _ (by omega)))
  have hf2 : Frm (fun i => i = D ∨ tv.ownBlock = some i) w w2 := (Frm.of_below ((Below.refl w.heap.size w).alloc (Nat.le_refl _) _)).trans (Frm.of_grown (S := fun i => i = D ∨ tv.ownBlock = some i) hgrow2 (fun k hk => .inr hk)) (fun _ _ h => h)
  have hown2' : w2.ownsRow base 21 1 (.slice (some ⟨g', 0, none⟩) (l.length + 1) cap') (l.length + 1) ((l ++ [62]).map (Value.int .i32)) := by simpa using hown2
  have hD3 := hD2.set1 (.slice (some ⟨g', 0, none⟩) (l.length + 1) cap')
  have hfs : Frm (fun i => i = D ∨ tv.ownBlock = some i) w2 (w2.setCell ⟨D, 1, none⟩ (.slice (some ⟨g', 0, none⟩) (l.length + 1) cap')) := Frm.setCell _ _ _ (.inl rfl)
  have hf3 := hf2.trans hfs (fun _ _ h => h)
  have hown3 : (w2.setCell ⟨D, 1, none⟩ (.slice (some ⟨g', 0, none⟩) (l.length + 1) cap')).ownsRow base 21 1 (.slice (some ⟨g', 0, none⟩) (l.length + 1) cap') (l.length + 1) ((l ++ [62]).map (Value.int .i32)) :=
    ownsRow_frm hown2' (Frm.setCell (S := fun i => i = D) _ _ _ rfl) (fun k hk e => by subst e; have := (hown2'.lt _ hk).1; omega)
  have HO3 := Lib.hid hown3
  have hw2l := hf2.size
  clear c0 c1 c2 c3 c4 f1 f2 f4 hown hown2 hown2' hown3 hgrow2 hf2 hfs hD
  obtain ⟨c0, c1, c2, c3, c4, f1, f2, f4⟩ := hD2.cells
  obtain ⟨d0, d1, d2, d3, d4, e1, e2, e4⟩ := hD3.cells
  have hsl := slI_of_owns (k := .i32) (xs := l ++ [62]) HO3.out (Nat.le_refl _)
  go_wp2_with fail
  refine (ending_any D 0 _ t false (l ++ [62]) _ hD3 hsl (by simp; omega)).mono ?_
  rw [he.out]
  rintro e w4 ⟨rfl, hb4⟩
  have hD4 := hD3.below hb4 hD3.lt
  have HO4 := Lib.hid (ownsRow_below HO3.out hb4 (Nat.le_refl _))
  have hf4 := hf3.next hb4
  clear d0 d1 d2 d3 d4 e1 e2 e4 hsl
  obtain ⟨d0, d1, d2, d3, d4, e1, e2, e4⟩ := hD4.cells
  have hD5 := hD4.set2 0
  obtain ⟨g0, g1, g2, g3, g4, k1, k2, k4⟩ := hD5.cells
  go_wp2
  go_step3
  refine ⟨rfl, ?_⟩
  go_wp2
  rw [Exit.noGoto_ret]
  go_ret2
  refine ⟨_, rfl, hD5, ownsRow_frm HO4.out (Frm.setCell (S := fun i => i = D) _ ⟨D, 2, none⟩ _ rfl) (fun k hk e => by subst e; have := (HO4.out.lt _ hk).1; omega), ?_⟩
  exact hf4.trans (Frm.setCell (S := fun i => i = D ∨ tv.ownBlock = some i) _ ⟨D, 2, none⟩ _ (.inl rfl)) (fun _ _ h => h)

set_option maxHeartbeats 2000000 in
theorem put_gt0y (D base : Nat) (tv : Value) (t : Int) (l : List Int) (w : World) (hD : ScAt w D 0 tv t false) (hown : w.ownsRow base 21 1 tv l.length (l.map (Value.int .i32))) (hDb : D < base) (hbase : base ≤ w.heap.size) (hx : l.length + 1 ≤ 1099511627776)
    (m : Nat) (he : Hid (endN (l ++ [62]) = m)) (hm : ((m : Int) == 0) = false) :
    Calls Try.prog 14 #[.pointer (some ⟨D, 0, none⟩), .int .i32 62] w fun e w' => ∃ tv', e = .returned (.tuple #[.bool true, .int .i64 0]) ∧ ScAt w' D 0 tv' (m : Nat) true ∧
      w'.ownsRow base 21 1 tv' (l.length + 1) ((l ++ [62]).map (Value.int .i32)) ∧ Frm (fun i => i = D ∨ tv.ownBlock = some i) w w' := by
  obtain ⟨i0, hi, hz0, hz1, hz2⟩ := info_parts Try.infoI32
  obtain ⟨c0, c1, c2, c3, c4, f1, f2, f4⟩ := hD.cells
  have hDl := hD.lt
  have hne : tv.ownBlock ≠ some D := fun e => by have := (hown.lt D e).1; omega
  have HNE := Lib.hid hne
  clear hne
  go_enter Try.func14, Try.ntmps14
  go_wp2
  go_step3
  go_wp2_with (first
    | (go_at_call 27; refine (sready_is D 0 tv t false 0 _ hD (Lib.hid rfl)).mono ?_; rintro e w' ⟨rfl, rfl⟩)
    | (go_at_call 28; refine (width_any 62 _).mono ?_; rw [(show widthOf 62 = 1 by decide +kernel)]; rintro e w' ⟨rfl, rfl⟩)
    | (at_builtin; refine wpList_append_own _ rfl _ _ 32 rfl base 21 i0 (.int .i32 0) 1 4 Try.underlying32 hi hz0 hz1 hz2 rfl (by decide) _ l.length _ rfl (hown.alloc _) ⟨w.heap.size, 0, none⟩ 1 1 [.int .i32 62] rfl rfl ?c1 ?c2 ?c3 ?c4 ?c5 ?_))
  case c1 => exact cells_news _ _ _
  case c2 => intro u hu; simp at hu; subst hu; rfl
  case c3 => unfold maxLen; omega
  case c4 => omega
  case c5 => simp; omega
  intro v' w2 hown2 hgrow2 _
  obtain ⟨g', cap', rfl⟩ := ownsRow_succ hown2
  have hD2 : ScAt w2 D 0 tv t false := hD.of ((hgrow2.block D (by simp; omega) (fun e => HNE.out e.symm)).trans (Below.heap_alloc _ _ _ (by omega)))
  have hf2 : Frm (fun i => i = D ∨ tv.ownBlock = some i) w w2 := (Frm.of_below ((Below.refl w.heap.size w).alloc (Nat.le_refl _) _)).trans (Frm.of_grown (S := fun i => i = D ∨ tv.ownBlock = some i) hgrow2 (fun k hk => .inr hk)) (fun _ _ h => h)
  have hown2' : w2.ownsRow base 21 1 (.slice (some ⟨g', 0, none⟩) (l.length + 1) cap') (l.length + 1) ((l ++ [62]).map (Value.int .i32)) := by simpa using hown2
  have hD3 := hD2.set1 (.slice (some ⟨g', 0, none⟩) (l.length + 1) cap')
  have hfs : Frm (fun i => i = D ∨ tv.ownBlock = some i) w2 (w2.setCell ⟨D, 1, none⟩ (.slice (some ⟨g', 0, none⟩) (l.length + 1) cap')) := Frm.setCell _ _ _ (.inl rfl)
  have hf3 := hf2.trans hfs (fun _ _ h => h)
  have hown3 : (w2.setCell ⟨D, 1, none⟩ (.slice (some ⟨g', 0, none⟩) (l.length + 1) cap')).ownsRow base 21 1 (.slice (some ⟨g', 0, none⟩) (l.length + 1) cap') (l.length + 1) ((l ++ [62]).map (Value.int .i32)) :=
    ownsRow_frm hown2' (Frm.setCell (S := fun i => i = D) _ _ _ rfl) (fun k hk e => by subst e; have := (hown2'.lt _ hk).1; omega)
  have HO3 := Lib.hid hown3
  have hw2l := hf2.size
  clear c0 c1 c2 c3 c4 f1 f2 f4 hown hown2 hown2' hown3 hgrow2 hf2 hfs hD
  obtain ⟨c0, c1, c2, c3, c4, f1, f2, f4⟩ := hD2.cells
  obtain ⟨d0, d1, d2, d3, d4, e1, e2, e4⟩ := hD3.cells
  have hsl := slI_of_owns (k := .i32) (xs := l ++ [62]) HO3.out (Nat.le_refl _)
  go_wp2_with fail
  refine (ending_any D 0 _ t false (l ++ [62]) _ hD3 hsl (by simp; omega)).mono ?_
  rw [he.out]
  rintro e w4 ⟨rfl, hb4⟩
  have hD4 := hD3.below hb4 hD3.lt
  have HO4 := Lib.hid (ownsRow_below HO3.out hb4 (Nat.le_refl _))
  have hf4 := hf3.next hb4
  clear d0 d1 d2 d3 d4 e1 e2 e4 hsl
  obtain ⟨d0, d1, d2, d3, d4, e1, e2, e4⟩ := hD4.cells
  have hD5 := hD4.set2 (m : Nat)
  obtain ⟨g0, g1, g2, g3, g4, k1, k2, k4⟩ := hD5.cells
  go_wp2
  rw [Exit.noGoto_ret]
  go_ret2
  refine ⟨_, rfl, hD5.set4 true, ownsRow_frm HO4.out ((Frm.setCell (S := fun i => i = D) _ ⟨D, 2, none⟩ _ rfl).trans (Frm.setCell (S := fun i => i = D) _ ⟨D, 4, none⟩ _ rfl) (fun _ _ h => h)) (fun k hk e => by subst e; have := (HO4.out.lt _ hk).1; omega), ?_⟩
  exact (hf4.trans (Frm.setCell (S := fun i => i = D ∨ tv.ownBlock = some i) _ ⟨D, 2, none⟩ _ (.inl rfl)) (fun _ _ h => h)).trans (Frm.setCell (S := fun i => i = D ∨ tv.ownBlock = some i) _ ⟨D, 4, none⟩ _ (.inl rfl)) (fun _ _ h => h)

/-- what Put leaves: the tail, and whether it is over -/
def putT (k t r : Int) (l : List Int) : Int := if r = 62 then (if k = 0 then (endN (l ++ [62]) : Nat) else 1) else t
theorem putT_over {k t : Int} {l : List Int} {r : Int} (h : overL k (l ++ [fixR r]) = true) : putT k t (fixR r) l = if k = 0 then (endN (l ++ [fixR r]) : Nat) else 1 := by
  unfold overL at h
  rw [endsL_last] at h
  simp only [Bool.and_eq_true, decide_eq_true_eq] at h
  unfold putT
  rw [if_pos h.1, h.1]
  split <;> rfl
theorem put_any (D base : Nat) (k : Int) (tv : Value) (t r : Int) (l : List Int) (w : World) (hD : ScAt w D k tv t false) (hown : w.ownsRow base 21 1 tv l.length (l.map (Value.int .i32))) (hDb : D < base) (hbase : base ≤ w.heap.size) (hx : l.length + 1 ≤ 1099511627776) (k0 : 0 ≤ k) (k2 : k ≤ 2) :
    Calls Try.prog 14 #[.pointer (some ⟨D, 0, none⟩), .int .i32 r] w fun e w' => ∃ tv', e = .returned (.tuple #[.bool (overL k (l ++ [fixR r])), .int .i64 0]) ∧ ScAt w' D k tv' (putT k t (fixR r) l) (overL k (l ++ [fixR r])) ∧
      w'.ownsRow base 21 1 tv' (l.length + 1) ((l ++ [fixR r]).map (Value.int .i32)) ∧ Frm (fun i => i = D ∨ tv.ownBlock = some i) w w' := by
  by_cases hbad : goodB r = false ∨ r = 65533
  · obtain ⟨h1, h2, h3⟩ := enc_fffd hbad
    rw [h2]
    have e1 : overL k (l ++ [65533]) = false := by unfold overL; rw [endsL_last]; rfl
    have e2 : putT k t 65533 l = t := rfl
    rw [e1, e2]
    exact put_bad D base k tv t r l w hD hown hDb hbase hx (Lib.hid h1) h3
  · have hg : goodB r = true := by
      cases h : goodB r
      · exact absurd (.inl h) hbad
      · rfl
    obtain ⟨h2, h3⟩ := enc_other hg (fun h => hbad (.inr h))
    rw [h2]
    by_cases h62 : r = 62
    · subst h62
      rcases (show k = 0 ∨ k = 1 ∨ k = 2 by omega) with rfl | rfl | rfl
      · by_cases hz : endN (l ++ [62]) = 0
        · have e1 : overL 0 (l ++ [62]) = false := by unfold overL; rw [hz]; simp
          have e2 : putT 0 t 62 l = 0 := by unfold putT; rw [if_pos rfl, if_pos rfl, hz]; rfl
          rw [e1, e2]
          exact put_gt0n D base tv t l w hD hown hDb hbase hx (Lib.hid hz)
        · have e1 : overL 0 (l ++ [62]) = true := by unfold overL; rw [endsL_last]; simp [hz]
          have e2 : putT 0 t 62 l = (endN (l ++ [62]) : Nat) := by unfold putT; rw [if_pos rfl, if_pos rfl]
          rw [e1, e2]
          exact put_gt0y D base tv t l w hD hown hDb hbase hx _ (Lib.hid rfl) (by rw [beq_eq_false_iff_ne]; omega)
      · have e1 : overL 1 (l ++ [62]) = true := by unfold overL; rw [endsL_last]; rfl
        have e2 : putT 1 t 62 l = 1 := rfl
        rw [e1, e2]
        exact put_gt1 D base tv t l w hD hown hDb hbase hx trivial
      · have e1 : overL 2 (l ++ [62]) = true := by unfold overL; rw [endsL_last]; rfl
        have e2 : putT 2 t 62 l = 1 := rfl
        rw [e1, e2]
        exact put_gt2 D base tv t l w hD hown hDb hbase hx trivial
    · have e1 : overL k (l ++ [r]) = false := by unfold overL; rw [endsL_last, decide_eq_false h62]; rfl
      have e2 : putT k t r l = t := by unfold putT; rw [if_neg h62]
      have e3 : (r != 62) = true := by simpa using h62
      rw [e1, e2]
      by_cases h9 : widthOf r = 3
      · exact put_three D base k tv t r l w hD hown hDb hbase hx (Lib.hid h9) h3 e3
      · exact put_plain D base k tv t r l w hD hown hDb hbase hx _ (Lib.hid rfl) (by simpa using h9) e3

end Go.Proofs.Ytoccmpaonicnnaa
