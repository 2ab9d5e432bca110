/- utf.Back and its iterator: the runes with their places, from the last one on. -/
import Derived.Test.YtpbmgcnalhaajaaUtfB
import Derived.Test.YtpbmgcnalhaajaaPieces
import Derived.Test.YtpbmgcnalhaajaaJoin
namespace Go.Proofs.Ytpbmgcnalhaajaa
open Go.RowKit Go.Shelf
set_option linter.unusedVariables false
set_option linter.unusedSimpArgs false
attribute [local go_sem] Oper.semAt_some

theorem Try.infoUtfPiece : (Try.prog.info? 80).map (fun i => (i.zero, i.size, i.bytes)) = some (some (.agg #[.int .i64 0, .int .i32 0]), 2, 16) := by kernel_rfl

def encQ (x : Nat × Int) : List Value := [.int .i64 (x.1 : Int), .int .i32 x.2]
def encQs (l : List (Nat × Int)) : List Value := l.flatMap encQ
theorem encQs_snoc (l : List (Nat × Int)) (c : Nat × Int) : encQs (l ++ [c]) = encQs l ++ encQ c := by simp [encQs]
theorem encQs_get : ∀ {l : List (Nat × Int)} {i : Nat} {c : Nat × Int}, l[i]? = some c → ∀ j, j < 2 → (encQs l)[i * 2 + j]? = (encQ c)[j]?
  | [], i, c, h, _, _ => by simp at h
  | d :: l, 0, c, h, j, hj => by
    simp at h; subst h
    simp only [encQs, List.flatMap_cons, Nat.zero_mul, Nat.zero_add]
    rw [List.getElem?_append_left (by simp [encQ]; omega)]
  | d :: l, i + 1, c, h, j, hj => by
    have ih := encQs_get (l := l) (i := i) (by simpa using h) j hj
    simp only [encQs, List.flatMap_cons] at ih ⊢
    rw [List.getElem?_append_right (by simp [encQ]; omega), ← ih]
    congr 1
    simp [encQ]; omega

/-- the box of Back's iterator: a list of pairs -/
def BackBox (W : World) (Bx lo hi : Nat) (xs : List Int) : Prop := ∃ ao cap, W.cell? ⟨Bx, 0, none⟩ = some (.slice ao (prs xs).length cap) ∧ (prs xs).length ≤ cap ∧
  (0 < (prs xs).length → ∃ g, ao = some ⟨g, 0, none⟩ ∧ lo ≤ g ∧ g < hi ∧ ∀ (j : Nat) c, (encQs (prs xs))[j]? = some c → W.cell? ⟨g, j, none⟩ = some c)
theorem BackBox.keeps {W W' : World} {Bx lo hi : Nat} {xs : List Int} (h : BackBox W Bx lo hi xs) (hk : Keeps lo hi W W') (h1 : lo ≤ Bx) (h2 : Bx < hi) : BackBox W' Bx lo hi xs := by
  obtain ⟨ao, cap, hc, hcap, hr⟩ := h
  refine ⟨ao, cap, (hk.cell (p := ⟨Bx, 0, none⟩) h1 h2).trans hc, hcap, fun h0 => ?_⟩
  obtain ⟨g, ha, g1, g2, hg⟩ := hr h0
  exact ⟨g, ha, g1, g2, fun j c hj => (hk.cell (p := ⟨g, j, none⟩) g1 g2).trans (hg j c hj)⟩

set_option maxRecDepth 100000 in
set_option maxHeartbeats 2000000 in
theorem back_any (B : Nat) (v : Value) (xs : List Int) (w : World) (hs : SlI .u8 B w v xs) (hB : B ≤ w.heap.size) (hb : Byt xs) (hx : xs.length ≤ 1099511627776) :
    Calls Try.prog 23 #[v] w fun e w' => e = .returned (.func (.func 52) #[] #[.pointer (some ⟨w.heap.size, 0, none⟩)]) ∧ BackBox w' w.heap.size w.heap.size w'.heap.size xs ∧ w.heap.size < w'.heap.size ∧ Below w.heap.size w w' := by
  obtain ⟨i0, hi, hz0, hz1, hz2⟩ := info_parts Try.infoUtfPiece
  have hlen := prs_length xs
  refine (callsIn_wide (n := 3)).1 ?_
  refine callsIn_of_wp_marks Try.func23 rfl trivial ?_ rfl
  simp only [Try.ntmps23, List.size_toArray, List.length_cons, List.length_nil, Nat.reduceAdd, Nat.reduceSub, Array.replicate_succ, Array.replicate_zero, List.push_toArray, List.append_toArray, List.nil_append, List.cons_append]
  have hs1 : SlI .u8 B (w.alloc (.cells #[.slice none 0 0] 78)) v xs := hs.below ((Below.refl w.heap.size w).alloc (Nat.le_refl _) _) hB
  gi_wp2_with (refine ⟨trivial, ?_⟩; gi_at_call 15; refine (callsIn_wide.2 (all_any B v xs _ hs1 (by simp; omega) hx)).mono ?_; rintro e w1 ⟨rfl, hbox, hsz, hbel⟩)
  obtain ⟨u, hcu, hu, hlow⟩ := hbox
  have bO : Boxed w1 w.heap.size 78 (.slice none 0 0) := boxed_below (Boxed.new w _ _) hbel (by simp)
  have hB0 : Below w.heap.size w w1 := ((Below.refl _ w).alloc (Nat.le_refl _) _).trans (hbel.mono (by simp))
  simp only [World.size_alloc] at hcu hlow hsz
  refine wpIn_rangeFunc_ownG rfl (by omega) (gf := 48) (lb := #[.pointer (some ⟨w.heap.size + 1, 0, none⟩)]) rfl trivial (enters_of Try.func48 (by kernel_rfl) rfl)
    (all_stops (3 - 1) (by omega) (w.heap.size + 1) (w.heap.size + 1) w1.heap.size u xs hb hx w1 (Nat.le_refl _) hsz (fun b hb => by have := hlow b hb; omega) (Nat.le_refl _) hcu hu) keepsK_t (keepsK_b (Nat.le_refl _)) (Below.refl _ _) (fun _ => rfl)
    (fun pre W => (∃ v, Boxed W w.heap.size 78 v ∧ W.ownsRow w1.heap.size 80 2 v pre.length (encQs pre) ∧ True) ∧ Below w.heap.size w W ∧ w1.heap.size ≤ W.heap.size)
    (fun _ _ _ => False)
    ?hI (fun _ _ _ _ _ hs _ _ => hs) ?h0 ?a1 ?assign ?body ?done ?stop
  case assign =>
    intro l x W K hK
    have HK := Lib.hid hK
    clear hK
    simp only [encPr]
    gi_wp2
    exact HK.out
  case hI =>
    exact OwnFrom.and (Own.from (holdsRow_own w1.heap.size w.heap.size 78 80 2 (fun pre : List (Nat × Int) => pre.length) (fun pre => encQs pre) (fun _ _ => True)) _)
      (OwnFrom.and (ownFrom_below (Nat.le_refl _) (by omega)) (fun s W W' row hs hg hr => Nat.le_trans hs hg.size))
  case h0 => exact ⟨⟨_, bO, World.ownsRow_nil _ _ _ _, trivial⟩, hB0, Nat.le_refl _⟩
  case body =>
    rintro l pre x W ⟨⟨v0, hv, hrow, _⟩, hB1, hW⟩ hlt
    have hc := hv.cell
    gi_wp2_with (gi_at_builtin; refine wpListIn_append_own _ rfl _ _ 78 rfl w1.heap.size 80 i0 (.agg #[.int .i64 0, .int .i32 0]) 2 16 Try.underlying78 hi hz0 hz1 hz2 rfl (by decide) _ _ _ rfl (hrow.alloc _) ⟨W.heap.size, 0, none⟩ 1 1 [.int .i64 (x.1 : Int), .int .i32 x.2] rfl rfl (cells_news _ _ _) (by simp [Value.oneCell']) (by simp [maxLen]; omega) (by omega) (by simp; omega) ?_; intro v' w2 hown' hgrow _; obtain ⟨g', cap', rfl⟩ := ownsRow_succ hown'; obtain ⟨hv1, hv2, hr2, hk2, hb2, hk3⟩ := boxed_append (n₀ := w.heap.size) (lo := w.heap.size + 1) (hi := w1.heap.size) hv (by decide) hrow (Nat.le_refl _) (by omega) (by omega) (Nat.le_refl _) hW hown' hgrow; have hc1 := hv1.cell; have hf1 := hv1.frozen)
    exact ⟨hk2.from _, hk3, ⟨_, hv2, by rw [encQs_snoc]; simpa [encQ] using hr2, trivial⟩, hB1.trans hb2, by have := hb2.size; omega⟩
  case done =>
    rintro D ys W hD rfl ⟨⟨v0, hv, hrow, _⟩, hB1, hW⟩ hK
    have hbb : BackBox (W.putObj D (.deferred none)) w.heap.size w.heap.size (W.putObj D (.deferred none)).heap.size xs := by
      have hrp := ownsRow_putObj hrow (.deferred none) hK rfl
      obtain ⟨ao, cap, rfl, hcap, hn, hr⟩ := owns_shape hrp
      refine ⟨ao, cap, (boxed_putObj hv _ (by omega)).cell, hcap, fun h0 => ?_⟩
      obtain ⟨g, ha, g1, g2, g3⟩ := hr h0
      exact ⟨g, ha, by omega, g2, g3⟩
    gi_wp2
    refine ⟨by simp, .inl ⟨_, _, rfl, run_takeDeferred hK, ?_⟩⟩
    exact ⟨_, results_tmp rfl _ _ _, rfl, hbb, by have := hW; simp; omega, hB1.trans (belowK_b (w := w) (Nat.le_refl _) W D _ _ (by omega) hK rfl rfl)⟩
  case stop =>
    rintro D c pre W _ _ h _
    exact h.elim

end Go.Proofs.Ytpbmgcnalhaajaa
