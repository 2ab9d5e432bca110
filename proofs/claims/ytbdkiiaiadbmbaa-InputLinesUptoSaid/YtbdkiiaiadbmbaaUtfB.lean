/- utf.Runes: the runes of bytes, in new memory. -/
import Derived.Test.YtbdkiiaiadbmbaaUtfA
namespace Go.Proofs.Ytbdkiiaiadbmbaa
open Go.RowKit Go.Shelf
set_option linter.unusedVariables false
set_option linter.unusedSimpArgs false
attribute [local go_sem] Oper.semAt_some

theorem Try.infoI32 : (Try.prog.info? 21).map (fun i => (i.zero, i.size, i.bytes)) = some (some (.int .i32 0), 1, 4) := by kernel_rfl

def prRunes (l : List (Nat × Int)) : List Int := l.map Prod.snd
theorem prRunes_snoc (l : List (Nat × Int)) (x : Nat × Int) : prRunes (l ++ [x]) = prRunes l ++ [x.2] := by simp [prRunes]
theorem prRunes_prs (xs : List Int) : prRunes (prs xs) = runesOf xs := by simp [prRunes, prs, runesOf, List.map_map]; intro a _; rfl
theorem prRunes_length (l : List (Nat × Int)) : (prRunes l).length = l.length := by simp [prRunes]
theorem prs_length (xs : List Int) : (prs xs).length ≤ xs.length := by have := pcs_length xs; simpa [prs] using this

/-- 'out = append(out, ..)', out in a box of the function's own: what the walk owes behind it. -/
theorem boxed_append {W w1 : World} {n₀ base B lo hi : Nat} {t e : TypeId} {size : Nat} {v v' : Value} {k m : Nat} {xs ys : List Value} {tmp : Obj}
    (hv : Boxed W B t v) (hte : t ≠ e) (hrow : W.ownsRow base e size v k xs) (hn₀ : n₀ ≤ B) (hbase : n₀ ≤ base) (hlo : B < lo) (hhi : hi ≤ base) (hW : hi ≤ W.heap.size)
    (hown' : w1.ownsRow base e size v' m ys) (hgrow : (W.alloc tmp).grownBy w1 v.ownBlock) :
    Boxed w1 B t v ∧ Boxed (w1.setCell ⟨B, 0, none⟩ v') B t v' ∧ (w1.setCell ⟨B, 0, none⟩ v').ownsRow base e size v' m ys ∧ KeepsOthers W (w1.setCell ⟨B, 0, none⟩ v') ∧ Below n₀ W (w1.setCell ⟨B, 0, none⟩ v') ∧ Keeps lo hi W (w1.setCell ⟨B, 0, none⟩ v') := by
  have hBl := hv.lt
  obtain ⟨h1, h2, _, h4, h5⟩ := hv.appended hte (ownsRow_base hrow hbase) (by omega) hn₀ (ownsRow_base hown' hbase) hgrow
  refine ⟨h1, h2, hown'.kept (grownBy_setCell' w1 B v') (.inr (h1.not_row hte hown').symm), h4, h5, ?_⟩
  refine ((Keeps.alloc lo hi W tmp hW).trans (Keeps.grown hgrow (by simp; omega) fun k e => .inr ?_)).trans (Keeps.setCell _ _ _ _ _ (.inl hlo))
  have := ownBlock_lt hrow k e
  omega
theorem boxed_below {w w' : World} {B C : Nat} {t : TypeId} {v : Value} (h : Boxed w B t v) (hb : Below C w w') (hB : B < C) : Boxed w' B t v := (hb.block B hB).trans h

set_option maxRecDepth 100000 in
set_option maxHeartbeats 2000000 in
theorem runes_any (B : Nat) (v : Value) (xs : List Int) (w : World) (hs : SlI .u8 B w v xs) (hB : B ≤ w.heap.size) (hb : Byt xs) (hx : xs.length ≤ 1099511627776) :
    Calls Try.prog 47 #[v] w fun e w' => ∃ u, e = .returned u ∧ w'.ownsRow w.heap.size 21 1 u (runesOf xs).length ((runesOf xs).map (Value.int .i32)) ∧ Below w.heap.size w w' := by
  obtain ⟨i0, hi, hz0, hz1, hz2⟩ := info_parts Try.infoI32
  have hlen := prs_length xs
  refine (callsIn_wide (n := 3)).1 ?_
  refine callsIn_of_wp_marks Try.func47 rfl trivial ?_ rfl
  simp only [Try.ntmps47, List.size_toArray, List.length_cons, List.length_nil, Nat.reduceAdd, Nat.reduceSub, Array.replicate_succ, Array.replicate_zero, List.push_toArray, List.append_toArray, List.nil_append, List.cons_append]
  have hs1 : SlI .u8 B (w.alloc (.cells #[.slice none 0 0] 69)) v xs := hs.below ((Below.refl w.heap.size w).alloc (Nat.le_refl _) _) hB
  gi_wp2_with (refine ⟨trivial, ?_⟩; gi_at_call 45; refine (callsIn_wide.2 (all_any B v xs _ hs1 (by simp; omega) hx)).mono ?_; rintro e w1 ⟨rfl, hbox, hsz, hbel⟩)
  obtain ⟨u, hcu, hu, hlow⟩ := hbox
  have bO : Boxed w1 w.heap.size 69 (.slice none 0 0) := boxed_below (Boxed.new w _ _) hbel (by simp)
  have hB0 : Below w.heap.size w w1 := ((Below.refl _ w).alloc (Nat.le_refl _) _).trans (hbel.mono (by simp))
  simp only [World.size_alloc] at hcu hlow hsz
  refine wpIn_rangeFunc_ownG rfl (by omega) (gf := 51) (lb := #[.pointer (some ⟨w.heap.size + 1, 0, none⟩)]) rfl trivial (enters_of Try.func51 (by kernel_rfl) rfl)
    (all_stops (3 - 1) (by omega) (w.heap.size + 1) (w.heap.size + 1) w1.heap.size u xs hb hx w1 (Nat.le_refl _) hsz (fun b hb => by have := hlow b hb; omega) (Nat.le_refl _) hcu hu) keepsK_t (keepsK_b (Nat.le_refl _)) (Below.refl _ _) (fun _ => rfl)
    (fun pre W => (∃ v, Boxed W w.heap.size 69 v ∧ W.ownsRow w1.heap.size 21 1 v (prRunes pre).length ((prRunes pre).map (Value.int .i32)) ∧ True) ∧ Below w.heap.size w W ∧ w1.heap.size ≤ W.heap.size)
    (fun _ _ _ => False)
    ?hI (fun _ _ _ _ _ hs _ _ => hs) ?h0
    (fun x => { tmps := #[v, undef, .slice none 0 0, .pointer (some ⟨w.heap.size, 0, none⟩), undef, .int .i32 x.2, v, .func (.func 51) #[] #[.pointer (some ⟨w.heap.size + 1, 0, none⟩)], .int .i64 (x.1 : Int), .int .i32 x.2, undef, undef, undef, undef, undef], defers := [] }) ?assign ?body ?done ?stop
  case hI =>
    exact OwnFrom.and (Own.from (holdsRow_own w1.heap.size w.heap.size 69 21 1 (fun pre => (prRunes pre).length) (fun pre => (prRunes pre).map (Value.int .i32)) (fun _ _ => True)) _)
      (OwnFrom.and (ownFrom_below (Nat.le_refl _) (by omega)) (fun s W W' row hs hg hr => Nat.le_trans hs hg.size))
  case h0 => exact ⟨⟨_, bO, World.ownsRow_nil _ _ _ _, trivial⟩, hB0, Nat.le_refl _⟩
  case assign =>
    intro l x W K hK
    simp only [encPr]
    gi_wp2
    exact hK
  case body =>
    rintro l pre x W ⟨⟨v0, hv, hrow, _⟩, hB1, hW⟩ hlt
    have hc := hv.cell
    have hpl := prRunes_length pre
    have hpl2 : (prRunes pre).length + 1 ≤ 1099511627776 := by omega
    clear hpl
    gi_wp2_with (gi_at_builtin; refine wpListIn_append_own _ rfl _ _ 69 rfl w1.heap.size 21 i0 (.int .i32 0) 1 4 Try.underlying69 hi hz0 hz1 hz2 rfl (by decide) _ _ _ rfl (hrow.alloc _) ⟨W.heap.size, 0, none⟩ 1 1 [.int .i32 x.2] rfl rfl (cell_one_new _ _ _) (by simp [Value.oneCell']) (by simp [maxLen]; omega) (by omega) (by simp; omega) ?_; intro v' w2 hown' hgrow _; obtain ⟨g', cap', rfl⟩ := ownsRow_succ hown'; obtain ⟨hv1, hv2, hr2, hk2, hb2, hk3⟩ := boxed_append (n₀ := w.heap.size) (lo := w.heap.size + 1) (hi := w1.heap.size) hv (by decide) hrow (Nat.le_refl _) (by omega) (by omega) (Nat.le_refl _) hW hown' hgrow; have hc1 := hv1.cell; have hf1 := hv1.frozen)
    exact ⟨hk2.from _, hk3, ⟨_, hv2, by rw [prRunes_snoc]; simpa using hr2, trivial⟩, hB1.trans hb2, by have := hb2.size; omega⟩
  case done =>
    rintro D ys W hD rfl ⟨⟨v0, hv, hrow, _⟩, hB1, hW⟩ hK
    have hc := hv.cell
    rw [prRunes_prs] at hrow
    gi_wp2
    refine ⟨by simp, .inl ⟨_, _, rfl, run_takeDeferred hK, ?_⟩⟩
    exact ⟨_, results_tmp rfl _ _ _, v0, rfl, ownsRow_base (ownsRow_putObj hrow _ hK rfl) (by omega), hB1.trans (belowK_b (w := w) (Nat.le_refl _) W D _ _ (by omega) hK rfl rfl)⟩
  case stop =>
    rintro D c pre W _ _ h _
    exact h.elim

end Go.Proofs.Ytbdkiiaiadbmbaa
