/- A range over a function in a block of its own: both ways out (it is over; a break) come to one goal. -/
import Derived.Test.YtbdkiiaiadbmbaaUtfA
namespace Go.Proofs.Ytbdkiiaiadbmbaa
open Go.RowKit Go.Shelf
set_option linter.unusedVariables false
set_option linter.unusedSimpArgs false

theorem wpIn_rangeFunc_join {α : Type} {F : Fence} {n : Nat} {P : Program} {g : Operand} {ps : Array Tmp} {assign body : Code} {id : Nat} {Q : Exit → Act → World → Prop} {a : Act} {w : World}
    (hro : F.round = none) (h1 : 1 ≤ n) {gf : Nat} {lb : Array Value} (hg : a.eval g = .func (.func gf) #[] lb) (hFg : F.fn gf) (eg : ∀ args w, (callFunc gf args).run P w = .ok (.enter gf args) w)
    {encs : α → Array Value} {Kp : World → World → Prop} {S Sp : List α → Prop} {N : Nat} {w0 : World} (hseq : SeqStopsK F (n - 1) P gf lb encs Kp S Sp N w0)
    (hKt : ∀ {A B C : World}, Kp A B → Kp B C → Kp A C) (hKb : ∀ (W : World) (l : Nat) (o o' : Obj), w.heap.size ≤ l → W.heap[l]? = some o → o.isCells = false → o.isWalk = false → Kp W (W.putObj l o')) (hb0 : Below w0.heap.size w0 w) (hps : ∀ x, (encs x).size = ps.size)
    (I : List α → World → Prop) (Ix : Code → List α → World → Prop) (Jn : World → Prop) (hI : OwnFrom w.heap.size I) (hIx : ∀ c, OwnFrom w.heap.size (Ix c)) (h0 : I [] w) (a₁ : α → Act)
    (hassign : ∀ (l : Nat) (x : α) (W : World) (K : Act → World → Prop), K (a₁ x) W →
      assign.wpIn (F.inRound l) (n - 1 - 1) P (Exit.then K (fun _ _ _ => False)) { tmps := (ps.zip (encs x)).foldl (fun t (p, v) => t.setIfInBounds p v) a.tmps, defers := [] } W)
    (hbody : ∀ (l : Nat) (pre : List α) (x : α) (W : World), I pre W → pre.length < N → body.wpIn (F.inRound l) (n - 1 - 1) P (ownPostG w.heap.size Kp I Ix (pre ++ [x]) W) (a₁ x) W)
    (hdone : ∀ (xs : List α) (W : World), S xs → I xs W → Jn W)
    (hstop : ∀ (c : Code) (pre : List α) (W : World), Sp pre → Ix c pre W → c = .exit id ∧ Jn W)
    (hjoin : ∀ (D : Nat) (W : World), w.heap.size ≤ D → Jn W → W.heap[D]? = some (.deferred (some [])) → Q .normal { a with defers := { target := .collected D, args := #[] } :: a.defers } W) :
    (Code.rangeFunc g ps assign body).wpIn F n P (Exit.inBlock id Q) a w := by
  refine wpIn_rangeFunc_ownG hro h1 hg hFg eg hseq hKt hKb hb0 hps I Ix hI hIx h0 a₁ hassign hbody ?_ ?_
  · intro D xs W hD hS hi hK
    exact hjoin D W hD (hdone xs W hS hi) hK
  · intro D c pre W hD hS hi hK
    obtain ⟨rfl, hj⟩ := hstop c pre W hS hi
    refine wpIn_exit ?_
    simp only [Exit.inBlock, if_true]
    exact hjoin D W hD hj hK

theorem leaves_mark1 {F : Fence} {n : Nat} {P : Program} {fn : Func} {tmps : Array Value} {R : Ending → World → Prop} {W : World} {D1 : Nat}
    (hK1 : W.heap[D1]? = some (.deferred (some []))) (hfin : ∃ v, (results fn tmps).run P (W.putObj D1 (.deferred none)) = .ok v (W.putObj D1 (.deferred none)) ∧ R (.returned v) (W.putObj D1 (.deferred none))) :
    LeavesInM F n P fn tmps R [{ target := .collected D1, args := #[] }] .returning W :=
  ⟨by simp, .inl ⟨_, _, rfl, run_takeDeferred hK1, hfin⟩⟩
theorem leaves_mark2 {F : Fence} {n : Nat} {P : Program} {fn : Func} {tmps : Array Value} {R : Ending → World → Prop} {W : World} {D1 D2 : Nat}
    (hK2 : W.heap[D2]? = some (.deferred (some []))) (hK1 : W.heap[D1]? = some (.deferred (some []))) (hne : D1 ≠ D2)
    (hfin : ∃ v, (results fn tmps).run P ((W.putObj D2 (.deferred none)).putObj D1 (.deferred none)) = .ok v ((W.putObj D2 (.deferred none)).putObj D1 (.deferred none)) ∧ R (.returned v) ((W.putObj D2 (.deferred none)).putObj D1 (.deferred none))) :
    LeavesInM F n P fn tmps R [{ target := .collected D2, args := #[] }, { target := .collected D1, args := #[] }] .returning W :=
  ⟨by simp, .inl ⟨_, _, rfl, run_takeDeferred hK2, leaves_mark1 ((World.putObj_heap_other hne).trans hK1) hfin⟩⟩

theorem boxed_putObj {W : World} {B : Nat} {t : TypeId} {v : Value} (h : Boxed W B t v) {l : Nat} (o : Obj) (hne : B ≠ l) : Boxed (W.putObj l o) B t v := (World.putObj_heap_other hne).trans h
theorem below_putObj {B : Nat} {w W : World} (h : Below B w W) {l : Nat} (o : Obj) (hl : B ≤ l) (hlt : B ≤ W.heap.size) : Below B w (W.putObj l o) :=
  h.grown (grownBy_putObj' W l o) hlt (fun k e => by cases e; exact hl)
theorem results_box_bool {P : Program} {fn : Func} {p ty : Nat} {tmps : Array Value} {W : World} {B : Nat} {t : TypeId} {x : Bool} (h : fn.results = #[.cell p ty]) (hty : P.underlying ty = some .bool)
    (hp : tmps.getD p undef = .pointer (some ⟨B, 0, none⟩)) (hb : Boxed W B t (.bool x)) : (results fn tmps).run P W = .ok (.bool x) W := by
  have hc := hb.cell
  simp only [results, h]
  have hp' : tmps[p]?.getD undef = .pointer (some ⟨B, 0, none⟩) := by simpa using hp
  simp [go_sem, hc, hp', isAgg, run_underlying hty]

end Go.Proofs.Ytbdkiiaiadbmbaa
