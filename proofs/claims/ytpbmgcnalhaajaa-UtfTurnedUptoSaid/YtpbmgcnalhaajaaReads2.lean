/- utf.Count, utf.Place. -/
import Derived.Test.YtpbmgcnalhaajaaUtfB
import Derived.Test.YtpbmgcnalhaajaaJoin
import Derived.Test.YtpbmgcnalhaajaaMisc
namespace Go.Proofs.Ytpbmgcnalhaajaa
open Go.RowKit Go.Shelf
set_option linter.unusedVariables false
set_option linter.unusedSimpArgs false
attribute [local go_sem] Oper.semAt_some

set_option maxRecDepth 100000 in
set_option maxHeartbeats 2000000 in
theorem count_any (B : Nat) (v : Value) (xs : List Int) (w : World) (hs : SlI .u8 B w v xs) (hB : B ≤ w.heap.size) (hb : Byt xs) (hx : xs.length ≤ 1099511627776) :
    Calls Try.prog 40 #[v] w fun e w' => e = .returned (.int .i64 ((pcs xs).length : Int)) ∧ Below w.heap.size w w' := by
  have hlen := prs_length xs
  have hlen2 : (prs xs).length = (pcs xs).length := by simp [prs]
  refine (callsIn_wide (n := 3)).1 ?_
  refine callsIn_of_wp_marks Try.func40 rfl trivial ?_ rfl
  simp only [Try.ntmps40, List.size_toArray, List.length_cons, List.length_nil, Nat.reduceAdd, Nat.reduceSub, Array.replicate_succ, Array.replicate_zero, List.push_toArray, List.append_toArray, List.nil_append, List.cons_append]
  have hs1 : SlI .u8 B (w.alloc (.cells #[.int .i64 0] 3)) v xs := hs.below ((Below.refl w.heap.size w).alloc (Nat.le_refl _) _) hB
  gi_wp2_with (refine ⟨trivial, ?_⟩; gi_at_call 15; refine (callsIn_wide.2 (all_any B v xs _ hs1 (by simp; omega) hx)).mono ?_; rintro e w1 ⟨rfl, hbox, hsz, hbel⟩)
  obtain ⟨u, hcu, hu, hlow⟩ := hbox
  have bN : Boxed w1 w.heap.size 3 (.int .i64 0) := boxed_below (Boxed.new w _ _) hbel (by simp)
  have hB0 : Below w.heap.size w w1 := ((Below.refl _ w).alloc (Nat.le_refl _) _).trans (hbel.mono (by simp))
  simp only [World.size_alloc] at hcu hlow hsz
  refine wpIn_rangeFunc_ownG rfl (by omega) (gf := 48) (lb := #[.pointer (some ⟨w.heap.size + 1, 0, none⟩)]) rfl trivial (enters_of Try.func48 (by kernel_rfl) rfl)
    (all_stops (3 - 1) (by omega) (w.heap.size + 1) (w.heap.size + 1) w1.heap.size u xs hb hx w1 (Nat.le_refl _) hsz (fun b hb => by have := hlow b hb; omega) (Nat.le_refl _) hcu hu) keepsK_t (keepsK_b (Nat.le_refl _)) (Below.refl _ _) (fun _ => rfl)
    (fun pre W => Boxed W w.heap.size 3 (.int .i64 (pre.length : Int)) ∧ Below w.heap.size w1 W)
    (fun _ _ _ => False)
    ?hI (fun _ _ _ _ _ hs _ _ => hs) ?h0 ?a1 ?assign ?body ?done ?stop
  case assign =>
    intro l x W K hK
    have HK := Lib.hid hK
    clear hK
    simp only [encPr]
    gi_wp2
    exact HK.out
  case body =>
    rintro l pre x W ⟨hbn, hbw⟩ hlt
    have hcn := hbn.cell
    have hfn := hbn.frozen
    gi_wp2
    exact ⟨(KeepsOthers.setCell _ _ _).from _, Keeps.setCell _ _ _ _ _ (.inl (by show w.heap.size < w.heap.size + 1; omega)), by have := hbn.set (.int .i64 ((pre.length : Int) + 1)); simpa using this, hbw.setCell (p := ⟨w.heap.size, 0, none⟩) (Nat.le_refl _) _⟩
  case hI => exact OwnFrom.and (Own.from (boxed_own w.heap.size 3 (fun pre : List (Nat × Int) => .int .i64 (pre.length : Int))) _) (ownFrom_below (by omega) (by omega))
  case h0 => exact ⟨bN, Below.refl _ _⟩
  case done =>
    rintro D ys W hD rfl ⟨hbn, hbw⟩ hK
    have hcn := hbn.cell
    gi_wp2
    refine ⟨by simp, .inl ⟨_, _, rfl, run_takeDeferred hK, ?_⟩⟩
    exact ⟨_, results_tmp rfl _ _ _, by simp [hlen2], below_putObj (hB0.trans hbw) _ (by omega) (by have := hbw.size; omega)⟩
  case stop =>
    rintro D c pre W _ _ h _
    exact h.elim

/-- what Place says -/
def placeOf (xs : List Int) (n : Int) : Int × Int :=
  if 0 ≤ n ∧ n < ((pcs xs).length : Int) then ((((pcs xs).map Pc.pos)[n.toNat]?.getD 0 : Nat), 0) else if n = ((pcs xs).length : Int) then ((xs.length : Int), 0) else (0, 10)

theorem results_box2 {P : Program} {fn : Func} {p q ty ty' : Nat} {tmps : Array Value} {W : World} {B C : Nat} {t t' : TypeId} {k k' : IntKind} {x y : Int} (h : fn.results = #[.cell p ty, .cell q ty']) (hty : P.underlying ty = some (.int k)) (hty' : P.underlying ty' = some (.int k'))
    (hp : tmps.getD p undef = .pointer (some ⟨B, 0, none⟩)) (hb : Boxed W B t (.int k x)) (hq : tmps.getD q undef = .pointer (some ⟨C, 0, none⟩)) (hc : Boxed W C t' (.int k' y)) : (results fn tmps).run P W = .ok (.tuple #[.int k x, .int k' y]) W := by
  have hcb := hb.cell
  have hcc := hc.cell
  simp only [results, h]
  have hp' : tmps[p]?.getD undef = .pointer (some ⟨B, 0, none⟩) := by simpa using hp
  have hq' : tmps[q]?.getD undef = .pointer (some ⟨C, 0, none⟩) := by simpa using hq
  simp [go_sem, hcb, hcc, hp', hq', isAgg, run_underlying hty, run_underlying hty']

end Go.Proofs.Ytpbmgcnalhaajaa
