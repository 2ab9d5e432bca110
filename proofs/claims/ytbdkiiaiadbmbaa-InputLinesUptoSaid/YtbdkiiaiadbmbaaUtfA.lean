/- utf.All and its iterator: the runes with their places. -/
import Derived.RangeFuncNested
import Derived.RangeFuncBox
import Derived.RangeFuncBound
import Derived.RangeFuncCalls
import Derived.RangeFuncLeaves
import Derived.Shelf.Abstract
import Derived.Shelf.RegionOpen
import Derived.OwnWalkIn
import Derived.TacticsInMore
import Derived.LoopNIn
import Derived.LoopIn
import Derived.Maps.AppendAt
import Derived.Test.YtbdkiiaiadbmbaaRead
import Derived.Test.YtbdkiiaiadbmbaaSl
namespace Go.Proofs.Ytbdkiiaiadbmbaa
open Go.RowKit Go.Shelf
set_option linter.unusedVariables false
set_option linter.unusedSimpArgs false
attribute [local go_sem] Oper.semAt_some

theorem Try.infoU8a : (Try.prog.info? 5).map (fun i => (i.zero, i.size, i.bytes)) = some (some (.int .u8 0), 1, 1) := by kernel_rfl

/-- the box of an iterator's bytes -/
def IterBox (w w' : World) (xs : List Int) : Prop := ∃ u, w'.cell? ⟨w.heap.size, 0, none⟩ = some u ∧ SlI .u8 w'.heap.size w' u xs ∧ ∀ b, u.ownBlock = some b → w.heap.size < b

theorem ints_one (k : IntKind) (xs : List Int) : ∀ u ∈ xs.map (Value.int k), u.oneCell' = true := by
  intro u hu
  obtain ⟨_, _, rfl⟩ := List.mem_map.1 hu
  rfl

set_option maxHeartbeats 1000000 in
theorem all_any (B : Nat) (v : Value) (xs : List Int) (w : World) (hs : SlI .u8 B w v xs) (hB : B ≤ w.heap.size) (hx : xs.length ≤ 1099511627776) :
    Calls Try.prog 45 #[v] w fun e w' => e = .returned (.func (.func 51) #[] #[.pointer (some ⟨w.heap.size, 0, none⟩)]) ∧ IterBox w w' xs ∧ w.heap.size < w'.heap.size ∧ Below w.heap.size w w' := by
  obtain ⟨i0, hi, hz0, hz1, hz2⟩ := info_parts Try.infoU8a
  have hsl := (hs.below ((Below.refl w.heap.size w).alloc (Nat.le_refl _) (.cells #[v] 25)) hB).sl
  obtain ⟨ao, cap, rfl, hc, hn, hr⟩ := hs
  go_enter Try.func45, Try.ntmps45
  go_wp2_with (at_builtin; refine wpList_append_sl _ rfl _ _ 25 rfl (w.heap.size + 1) 5 i0 (.int .u8 0) 1 Try.underlying25 hi hz0 hz1 hz2 rfl _ 0 [] rfl (World.ownsRow_nil _ _ _ _) B _ _ rfl hsl (ints_one _ _) ?h1 ?h2 ?h3 ?_)
  case h1 => simp [maxLen]; omega
  case h2 => simp; omega
  case h3 => simp
  intro v' w1 hown hgrow _
  have hc1 : w1.cell? ⟨w.heap.size, 0, none⟩ = some (.slice ao xs.length cap) := hgrow.cell (World.cell?_alloc_at _ _ _ _ rfl) (by simp [Value.ownBlock])
  have hf1 : w1.frozen? ⟨w.heap.size, 0, none⟩ = false := by
    rw [World.frozen?_of_block (w := w.alloc (.cells #[.slice ao xs.length cap] 25)) (hgrow.block w.heap.size (by simp) (by simp [Value.ownBlock]))]; exact World.frozen?_alloc_at _ _ _ _ rfl
  have hr1 := hown
  obtain ⟨ao', cap', rfl, hc', hn', hcells⟩ := slI_of_owns hr1 (Nat.le_refl _)
  have hb1 : Below w.heap.size w w1 := ((Below.refl w.heap.size w).alloc (Nat.le_refl _) _).grown hgrow (by simp) (fun k h => by simp [Value.ownBlock] at h)
  have hfar : 0 < xs.length → ∃ b off, ao' = some ⟨b, off, none⟩ ∧ w.heap.size + 1 ≤ b := by
    intro h0
    obtain ⟨b, off, rfl, hlt, hrun⟩ := hcells h0
    exact ⟨b, off, rfl, ownBlock_lt hown b rfl⟩
  have hsz : w.heap.size < w1.heap.size := by have := hgrow.size; simp at this; omega
  have H := Lib.hid hcells
  have H' := Lib.hid hfar
  have H'' := Lib.hid hown
  clear hcells hfar hown hr1 hr hsl
  go_wp2
  go_ret
  refine ⟨rfl, ⟨.slice ao' xs.length cap', ?_, ⟨ao', cap', rfl, hc', hn', fun h0 => ?_⟩, fun b hb => by have := ownBlock_lt H''.out b hb; omega⟩, by simp; omega, hb1.setCell (p := ⟨w.heap.size, 0, none⟩) (Nat.le_refl _) _⟩
  · exact World.cell?_setCell_same _ _ _ hc1
  · obtain ⟨b, off, ha, hlt, hrun⟩ := H.out h0
    obtain ⟨b2, off2, ha2, hlt2⟩ := H'.out h0
    rw [ha] at ha2
    cases ha2
    refine ⟨b, off, ha, by simpa using hlt, fun j x hj => ?_⟩
    rw [World.cell?_setCell_other _ _ _ _ (by intro e; injection e with e1 e2; omega)]
    exact hrun j x hj

/-- the pairs that come from place p on -/
def prsAt (xs : List Int) (p : Nat) : List (Nat × Int) := (pcsAt xs p).map pcPair
def prs (xs : List Int) : List (Nat × Int) := (pcs xs).map pcPair
theorem prsAt_end (xs : List Int) (p : Nat) (h : xs.length ≤ p) : prsAt xs p = [] := by rw [prsAt, pcsAt_end xs p h]; rfl
theorem prsAt_cons (xs : List Int) (p : Nat) (h : p < xs.length) : prsAt xs p = (p, (rd (xs.drop p)).1) :: prsAt xs (p + (rd (xs.drop p)).2.1) := by
  rw [prsAt, pcsAt_cons xs p h]; rfl

def encPr (x : Nat × Int) : Array Value := #[.int .i64 (x.1 : Int), .int .i32 x.2]

set_option maxRecDepth 100000 in
set_option maxHeartbeats 1000000 in
/-- the iterator, for every loop body that keeps the blocks lo to hi -/
theorem all1_in (n : Nat) (hn : 1 ≤ n) (l Bx lo hi : Nat) (u : Value) (xs : List Int) (J Jx : List (Nat × Int) → World → Prop) (hb : Byt xs) (hx : xs.length ≤ 1099511627776) (hBx1 : lo ≤ Bx) (hBx : Bx < hi) (hlow : ∀ b, u.ownBlock = some b → lo ≤ b) (N₀ : Nat) (hJ : AbidesFrom N₀ J)
    (hY : ∀ pre x W, J pre W → pre.length < (prs xs).length → YieldAt Fence.wide (n - 1) Try.prog l (encPr x) W fun e W' =>
      (e = .returned (.bool true) ∧ J (pre ++ [x]) W' ∧ Keeps lo hi W W') ∨ (e = .returned (.bool false) ∧ Jx (pre ++ [x]) W'))
    (W : World) (hc : W.cell? ⟨Bx, 0, none⟩ = some u) (hu : SlI .u8 hi W u xs) (h0 : J [] W) :
    CallsIn Fence.wide n Try.prog 51 #[.func (.yield l) #[] #[], .pointer (some ⟨Bx, 0, none⟩)] W fun e W' => (∃ v, e = .returned v) ∧
      ((∃ ys, ys = prs xs ∧ J ys W') ∨ (∃ pre, pre <+: prs xs ∧ Jx pre W')) := by
  obtain ⟨ao, cap, rfl, hcap, hn0, hr⟩ := hu
  refine callsIn_of_wp Try.func51 rfl trivial ?_ rfl
  simp only [Try.ntmps51, List.size_toArray, List.length_cons, List.length_nil, Nat.reduceAdd, Nat.reduceSub, Array.replicate_succ, Array.replicate_zero, List.push_toArray, List.append_toArray, List.nil_append, List.cons_append]
  gi_wp2
  gi_loopw [3] (fun i wr => ∃ (p : Nat) (pre : List (Nat × Int)), i = .int .i64 p ∧ p ≤ xs.length ∧ prs xs = pre ++ prsAt xs p ∧ J pre wr ∧ Keeps lo hi W wr)
    (fun i _ => xs.length - (intOf i).toNat)
  case atStart => exact ⟨0, [], rfl, Nat.zero_le _, rfl, h0, Keeps.refl _ _ _⟩
  case round =>
    obtain ⟨p, pre, rfl, hp, hpre, hJs, hnx⟩ := hrel
    have hcr : wr.cell? ⟨Bx, 0, none⟩ = some (.slice ao xs.length cap) := (hnx.cell (p := ⟨Bx, 0, none⟩) hBx1 hBx).trans hc
    by_cases hlt : p < xs.length
    · obtain ⟨b, off, rfl, hbn, hrun⟩ := hr (by omega)
      have hcons := prsAt_cons xs p hlt
      have hl : 0 < (xs.drop p).length := by simp; omega
      have hs := rd_size (xs.drop p) hl
      have hrun2 := (hrun.keeps hnx (hlow b rfl) hbn).drop p
      have hlen : (xs.drop p).length = xs.length - p := by simp
      have hread := fun w0 (h0 : Run .u8 w0 b (off + p) (xs.drop p)) => read_any b (off + p) (cap - p) (xs.drop p) w0 h0 (hb.drop p) (by omega) hl
      rw [hlen] at hread
      have hYq : ∀ q, YieldAt Fence.wide (n - 1) Try.prog l #[.int .i64 (p : Int), .int .i32 (rd (xs.drop p)).1] (wr.drewN q) fun e W' =>
          (e = .returned (.bool true) ∧ J (pre ++ [(p, (rd (xs.drop p)).1)]) W' ∧ Keeps lo hi (wr.drewN q) W') ∨ (e = .returned (.bool false) ∧ Jx (pre ++ [(p, (rd (xs.drop p)).1)]) W') :=
        fun q => hY pre (p, (rd (xs.drop p)).1) (wr.drewN q) (hJ pre wr (wr.drewN q) none hJs ⟨rfl, rfl, rfl, Nat.le_refl _, fun _ _ _ => rfl⟩ (fun r h => by cases h)) (by rw [hpre, hcons]; simp)
      have hpc : prs xs = (pre ++ [(p, (rd (xs.drop p)).1)]) ++ prsAt xs (p + (rd (xs.drop p)).2.1) := by rw [hpre, hcons]; simp
      have HP := Lib.hid hpc
      obtain ⟨h1n, hnl, hn4, _, _⟩ := hs
      rw [hlen] at hnl
      have HR := Lib.hid hread
      have HY := Lib.hid hYq
      have H2 := Lib.hid hrun2
      clear hread hYq hrun2 hY hcons hpre hpc hlen hl
      generalize hrd : rd (xs.drop p) = T at *
      clear hrd
      obtain ⟨r, k, wt⟩ := T
      simp only at *
      gi_wp2_with (refine ⟨trivial, ?_⟩; gi_at_call 50; refine (callsIn_wide.2 (HR.out _ H2.out)).mono ?_; rintro e w' ⟨rfl, q, rfl⟩; obtain ⟨fn, tmps, assign, body, hy, hR⟩ := HY.out q)
      refine hR.mono ?_
      rintro e W3 (⟨rfl, hJ3, hk3⟩ | ⟨rfl, hJx3⟩)
      · gi_wp2
        go_roundw
        case rel => exact ⟨p + k, _, by go_num, by omega, HP.out, hJ3, hnx.trans ((Keeps.drewN _ _ _ q).trans hk3)⟩
        case measure => simp [intOf]; omega
      · gi_wp2
        refine bodyPost_ret (results_none rfl _ _ _) rfl ?_
        exact ⟨⟨_, rfl⟩, .inr ⟨_, ⟨_, HP.out.symm⟩, hJx3⟩⟩
    · obtain rfl : p = xs.length := by omega
      rw [prsAt_end _ _ (Nat.le_refl _), List.append_nil] at hpre
      have HP := Lib.hid hpre
      clear hpre
      gi_wp2
      go_end0
      exact ⟨⟨_, rfl⟩, .inl ⟨_, rfl, by rw [HP.out]; exact hJs⟩⟩

/-- utf.All's value, as a range over a function takes it. -/
theorem all_stops (n : Nat) (hn : 1 ≤ n) (Bx lo hi : Nat) (u : Value) (xs : List Int) (hb : Byt xs) (hx : xs.length ≤ 1099511627776) (w : World) (hBx1 : lo ≤ Bx) (hBx : Bx < hi) (hlow : ∀ b, u.ownBlock = some b → lo ≤ b) (hn0 : hi ≤ w.heap.size)
    (hc : w.cell? ⟨Bx, 0, none⟩ = some u) (hu : SlI .u8 hi w u xs) :
    SeqStopsK Fence.wide n Try.prog 51 #[.pointer (some ⟨Bx, 0, none⟩)] encPr (Keeps lo hi) (fun ys => ys = prs xs) (fun pre => pre <+: prs xs) (prs xs).length w := fun l J Jx W hW hJ _ hY h0 =>
  all1_in n hn l Bx lo hi u xs J Jx hb hx hBx1 hBx hlow W.heap.size hJ hY W ((hW.cell (p := ⟨Bx, 0, none⟩) (by show Bx < w.heap.size; omega)).trans hc) (hu.below hW hn0) h0

theorem keepsK_t {lo hi : Nat} {A B C : World} (h : Keeps lo hi A B) (k : Keeps lo hi B C) : Keeps lo hi A C := h.trans k
theorem keepsK_b {lo hi : Nat} {w : World} (hn : hi ≤ w.heap.size) (W : World) (l : Nat) (o o' : Obj) (hl : w.heap.size ≤ l) (h : W.heap[l]? = some o) (_ : o.isCells = false) (_ : o.isWalk = false) : Keeps lo hi W (W.putObj l o') :=
  ⟨(grownBy_putObj' W l o').size, fun k _ h2 => World.putObj_heap_other (by omega)⟩

end Go.Proofs.Ytbdkiiaiadbmbaa
