/- (*at).move; the closure that tells a cell. -/
import Derived.Test.YtbdkiiaiadbmbaaIn
import Derived.Test.YtbdkiiaiadbmbaaOrd
import Derived.Test.YtbdkiiaiadbmbaaJoin
import Derived.Test.YtbdkiiaiadbmbaaPieces
namespace Go.Proofs.Ytbdkiiaiadbmbaa
open Go.RowKit
set_option linter.unusedVariables false
set_option linter.unusedSimpArgs false

/-- a reader: its place, what it holds; behind it whatever else its block has -/
def RdAt (w : World) (D : Nat) (ty : TypeId) (X : List Value) (p : Pl) (hv : Value) : Prop :=
  w.heap[D]? = some (.cells (Value.int .i64 p.b :: .int .i64 p.l :: .int .i64 p.c :: hv :: X).toArray ty)
section
variable {w w' : World} {D : Nat} {ty : TypeId} {X : List Value} {p : Pl} {hv : Value}
theorem RdAt.lt (h : RdAt w D ty X p hv) : D < w.heap.size := (Array.getElem?_eq_some_iff.1 h).1
theorem RdAt.cells (h : RdAt w D ty X p hv) :
    w.cell? ⟨D, 0, none⟩ = some (.int .i64 p.b) ∧ w.cell? ⟨D, 1, none⟩ = some (.int .i64 p.l) ∧ w.cell? ⟨D, 2, none⟩ = some (.int .i64 p.c) ∧ w.cell? ⟨D, 3, none⟩ = some hv ∧
    w.frozen? ⟨D, 0, none⟩ = false ∧ w.frozen? ⟨D, 1, none⟩ = false ∧ w.frozen? ⟨D, 2, none⟩ = false ∧ w.frozen? ⟨D, 3, none⟩ = false := by
  unfold RdAt at h
  simp [World.cell?, World.frozen?, h]
theorem RdAt.of (h : RdAt w D ty X p hv) (hb : w'.heap[D]? = w.heap[D]?) : RdAt w' D ty X p hv := hb.trans h
theorem RdAt.below (h : RdAt w D ty X p hv) {B : Nat} (hb : Below B w w') (hB : D < B) : RdAt w' D ty X p hv := h.of (hb.block D hB)
theorem RdAt.set0 (h : RdAt w D ty X p hv) (v : Int) : RdAt (w.setCell ⟨D, 0, none⟩ (.int .i64 v)) D ty X ⟨v, p.l, p.c⟩ hv := by
  unfold RdAt at h ⊢
  simp [World.setCell, Array.getElem?_modify, h]
theorem RdAt.set1 (h : RdAt w D ty X p hv) (v : Int) : RdAt (w.setCell ⟨D, 1, none⟩ (.int .i64 v)) D ty X ⟨p.b, v, p.c⟩ hv := by
  unfold RdAt at h ⊢
  simp [World.setCell, Array.getElem?_modify, h]
theorem RdAt.set2 (h : RdAt w D ty X p hv) (v : Int) : RdAt (w.setCell ⟨D, 2, none⟩ (.int .i64 v)) D ty X ⟨p.b, p.l, v⟩ hv := by
  unfold RdAt at h ⊢
  simp [World.setCell, Array.getElem?_modify, h]
theorem RdAt.set3 (h : RdAt w D ty X p hv) (v : Value) : RdAt (w.setCell ⟨D, 3, none⟩ v) D ty X p v := by
  unfold RdAt at h ⊢
  simp [World.setCell, Array.getElem?_modify, h]
end

theorem move_any (D : Nat) (ty : TypeId) (X : List Value) (p : Pl) (hv : Value) (r n : Int) (w : World) (hD : RdAt w D ty X p hv) :
    Calls Try.prog 44 #[.pointer (some ⟨D, 0, none⟩), .int .i32 r, .int .i64 n] w fun e w' => (∃ v, e = .returned v) ∧ RdAt w' D ty X (mvW p r n) hv ∧ Frm (fun i => i = D) w w' := by
  obtain ⟨c0, c1, c2, c3, f0, f1, f2, f3⟩ := hD.cells
  by_cases hr : r = 10
  · subst hr
    have hm : mvW p 10 n = ⟨wrap64 (p.b + n), wrap64 (p.l + 1), 1⟩ := rfl
    rw [hm]
    have h1 := ((hD.set0 (wrap64 (p.b + n))).set1 (wrap64 (p.l + 1))).set2 1
    have hf : Frm (fun i => i = D) w (((w.setCell ⟨D, 0, none⟩ (.int .i64 (wrap64 (p.b + n)))).setCell ⟨D, 1, none⟩ (.int .i64 (wrap64 (p.l + 1)))).setCell ⟨D, 2, none⟩ (.int .i64 1)) :=
      ((Frm.setCell (S := fun i => i = D) w ⟨D, 0, none⟩ _ rfl).trans (Frm.setCell (S := fun i => i = D) _ ⟨D, 1, none⟩ _ rfl) (fun _ _ h => h)).trans (Frm.setCell (S := fun i => i = D) _ ⟨D, 2, none⟩ _ rfl) (fun _ _ h => h)
    go_enter Try.func44, Try.ntmps44
    go_wp2
    refine bodyPost_ret (results_none rfl _ _ _) rfl ?_
    exact ⟨⟨_, rfl⟩, h1, hf⟩
  · have hm : mvW p r n = ⟨wrap64 (p.b + n), p.l, wrap64 (p.c + 1)⟩ := by unfold mvW; rw [if_neg hr]
    have hb : (r == 10) = false := by simp [hr]
    rw [hm]
    have h1 := (hD.set0 (wrap64 (p.b + n))).set2 (wrap64 (p.c + 1))
    have hf : Frm (fun i => i = D) w ((w.setCell ⟨D, 0, none⟩ (.int .i64 (wrap64 (p.b + n)))).setCell ⟨D, 2, none⟩ (.int .i64 (wrap64 (p.c + 1)))) :=
      (Frm.setCell (S := fun i => i = D) w ⟨D, 0, none⟩ _ rfl).trans (Frm.setCell (S := fun i => i = D) _ ⟨D, 2, none⟩ _ rfl) (fun _ _ h => h)
    go_enter Try.func44, Try.ntmps44
    go_wp2
    go_end0
    exact ⟨⟨_, rfl⟩, h1, hf⟩

theorem Try.infoCell : (Try.prog.info? 36).map (fun i => (i.zero, i.size, i.bytes)) = some (some (.agg #[.int .i32 0, .int .i64 0, .int .i64 0, .int .i64 0]), 4, 32) := by kernel_rfl
def encK (c : Cl) : List Value := [.int .i32 c.r, .int .i64 c.p.b, .int .i64 c.p.l, .int .i64 c.p.c]
def encKs (l : List Cl) : List Value := l.flatMap encK
theorem encKs_length (l : List Cl) : (encKs l).length = l.length * 4 := by
  induction l with
  | nil => rfl
  | cons c l ih => simp only [encKs, List.flatMap_cons, List.length_append, List.length_cons] at ih ⊢; rw [ih]; simp [encK]; omega
theorem encKs_snoc (l : List Cl) (c : Cl) : encKs (l ++ [c]) = encKs l ++ encK c := by simp [encKs]

/-- the boxes that the closure has -/
structure Bx (W : World) (bl br bo bd D : Nat) (last r : Int) (ov : Value) : Prop where
  l : Boxed W bl 3 (.int .i64 last)
  r : Boxed W br 21 (.int .i32 r)
  o : Boxed W bo 28 ov
  d : Boxed W bd 76 (.pointer (some ⟨D, 0, none⟩))

theorem flush_none (bl br bo bd D : Nat) (last r to : Int) (ov : Value) (w : World) (hb : Bx w bl br bo bd D last r ov) (h : last < 0) :
    Calls Try.prog 43 #[.int .i64 to, .pointer (some ⟨bl, 0, none⟩), .pointer (some ⟨br, 0, none⟩), .pointer (some ⟨bo, 0, none⟩), .pointer (some ⟨bd, 0, none⟩)] w fun e w' => (∃ v, e = .returned v) ∧ w = w' := by
  have cl := hb.l.cell
  go_enter Try.func43, Try.ntmps43
  go_wp2
  refine bodyPost_ret (results_none rfl _ _ _) rfl ?_
  exact ⟨⟨_, rfl⟩, rfl⟩


set_option maxHeartbeats 1000000 in
theorem flush_cell (bl br bo bd D base : Nat) (ty : TypeId) (X : List Value) (p : Pl) (hv : Value) (last r to : Int) (ov : Value) (out : List Cl) (w : World) (hb : Bx w bl br bo bd D last r ov) (hD : RdAt w D ty X p hv)
    (hown : w.ownsRow base 36 4 ov out.length (encKs out)) (hbase : base ≤ w.heap.size) (hne : D < base) (hx : out.length + 1 ≤ 2199023255552) (h : 0 ≤ last) (hbd : bd < base) (hbl : bl < base) (hbo : bo < base) (hbr : br < base) (hoD : bo ≠ D) (hod : bo ≠ bd) (hdD : bd ≠ D) (hlo : bl ≠ bo) (hlD : bl ≠ D) :
    Calls Try.prog 43 #[.int .i64 to, .pointer (some ⟨bl, 0, none⟩), .pointer (some ⟨br, 0, none⟩), .pointer (some ⟨bo, 0, none⟩), .pointer (some ⟨bd, 0, none⟩)] w fun e w' => (∃ v, e = .returned v) ∧
      ∃ ov', Boxed w' bo 28 ov' ∧ w'.ownsRow base 36 4 ov' (out.length + 1) (encKs (out ++ [⟨plainOf r, p⟩])) ∧ RdAt w' D ty X (mvW p (plainOf r) (wrap64 (to - last))) hv ∧ Frm (fun i => i = D ∨ i = bo ∨ ov.ownBlock = some i) w w' := by
  obtain ⟨i0, hi, hz0, hz1, hz2⟩ := info_parts Try.infoCell
  have bcl := hb.l.cell
  have bcr := hb.r.cell
  have bco := hb.o.cell
  have bcd := hb.d.cell
  have bfo := hb.o.frozen
  obtain ⟨c0, c1, c2, c3, f0, f1, f2, f3⟩ := hD.cells
  go_enter Try.func43, Try.ntmps43
  go_wp2_with ((go_at_call 9; refine (plain_any r _).mono ?_; rintro e w' ⟨rfl, rfl⟩))
  have hfm : Try.prog.follows .mixedOrders = true := by kernel_rfl
  clear bcl bcr f0 f1 f2 f3 c3
  have hnr : some bo ≠ ov.ownBlock := hb.o.not_row (by decide) hown
  have hnD : ov.ownBlock ≠ some D := fun e => by have := (hown.lt D e).1; omega
  have hnd : ov.ownBlock ≠ some bd := fun e => by have := (hown.lt bd e).1; omega
  have hnl : ov.ownBlock ≠ some bl := fun e => by have := (hown.lt bl e).1; omega
  have hen := enters_of (P := Try.prog) Try.func44 (by kernel_rfl) rfl
  have HEN := Lib.hid hen
  clear hen
  have HBO := Lib.hid (show ∀ (w2 : World) (ob : Obj), (w.drew.alloc ob).grownBy w2 ov.ownBlock → Boxed w2 bo 28 ov from fun w2 ob hg => Boxed.kept (Boxed.alloc (W := w.drew) hb.o ob) hg hnr)
  have hbol := hb.o.lt
  have hbdl := hb.d.lt
  have hDl := hD.lt
  have s1 : ∀ u ∈ encK ⟨plainOf r, p⟩, u.oneCell' = true := by intro u hu; simp [encK] at hu; rcases hu with rfl | rfl | rfl | rfl <;> rfl
  have s2 : out.length + 1 ≤ maxLen := by unfold maxLen; omega
  have s3 : (out.length + 1) * 32 ≤ 140737488355328 := by omega
  have s4 : ∀ (W : World) (e : TypeId), ∀ j u, (encK ⟨plainOf r, p⟩)[j]? = some u → (W.alloc (.cells #[.int .i32 (plainOf r), .int .i64 p.b, .int .i64 p.l, .int .i64 p.c] e)).cell? ((⟨W.heap.size, 0, none⟩ : Addr).add j) = some u := fun W e => cells_news W _ e
  have s5 : ∀ ob : Obj, base ≤ (w.drew.alloc ob).heap.size := fun ob => by rw [World.size_alloc]; exact Nat.le_succ_of_le hbase
  have haft : ∀ (w2 : World) (ob : Obj) (g' cap' : Nat), (w.drew.alloc ob).grownBy w2 ov.ownBlock → w2.ownsRow base 36 4 (.slice (some ⟨g', 0, none⟩) (out.length + 1) cap') (out.length + 1) (encKs out ++ encK ⟨plainOf r, p⟩) →
      Boxed (w2.setCell ⟨bo, 0, none⟩ (.slice (some ⟨g', 0, none⟩) (out.length + 1) cap')) bo 28 (.slice (some ⟨g', 0, none⟩) (out.length + 1) cap') ∧ (w2.setCell ⟨bo, 0, none⟩ (.slice (some ⟨g', 0, none⟩) (out.length + 1) cap')).ownsRow base 36 4 (.slice (some ⟨g', 0, none⟩) (out.length + 1) cap') (out.length + 1) (encKs (out ++ [⟨plainOf r, p⟩])) ∧
      RdAt (w2.setCell ⟨bo, 0, none⟩ (.slice (some ⟨g', 0, none⟩) (out.length + 1) cap')) D ty X p hv ∧ Boxed (w2.setCell ⟨bo, 0, none⟩ (.slice (some ⟨g', 0, none⟩) (out.length + 1) cap')) bd 76 (.pointer (some ⟨D, 0, none⟩)) ∧ Boxed (w2.setCell ⟨bo, 0, none⟩ (.slice (some ⟨g', 0, none⟩) (out.length + 1) cap')) bl 3 (.int .i64 last) ∧
      Frm (fun i => i = D ∨ i = bo ∨ ov.ownBlock = some i) w (w2.setCell ⟨bo, 0, none⟩ (.slice (some ⟨g', 0, none⟩) (out.length + 1) cap')) := by
    intro w2 ob g' cap' hg ho
    have hb1 : Below w.heap.size w (w.drew.alloc ob) := (Below.refl w.heap.size w).drew.alloc (by show w.heap.size ≤ w.heap.size; exact Nat.le_refl _) ob
    have hf2 : Frm (fun i => i = D ∨ i = bo ∨ ov.ownBlock = some i) w w2 := (Frm.of_below hb1).trans (Frm.of_grown (S := fun i => i = D ∨ i = bo ∨ ov.ownBlock = some i) hg (fun k hk => .inr (.inr hk))) (fun _ _ h => h)
    have hfs : Frm (fun i => i = bo) w2 (w2.setCell ⟨bo, 0, none⟩ (.slice (some ⟨g', 0, none⟩) (out.length + 1) cap')) := Frm.setCell _ _ _ rfl
    have hD2 : RdAt w2 D ty X p hv := hD.of ((hg.block D (by rw [World.size_alloc]; exact Nat.lt_succ_of_lt hDl) (fun e => hnD e.symm)).trans (Below.heap_alloc _ _ _ hDl))
    have bo2 : Boxed w2 bo 28 ov := HBO.out w2 ob hg
    have bd2 : Boxed w2 bd 76 (.pointer (some ⟨D, 0, none⟩)) := Boxed.kept (Boxed.alloc (W := w.drew) hb.d ob) hg (fun e => hnd e.symm)
    have bl2 : Boxed w2 bl 3 (.int .i64 last) := Boxed.kept (Boxed.alloc (W := w.drew) hb.l ob) hg (fun e => hnl e.symm)
    refine ⟨bo2.set _, ?_, hD2.of (hfs.block D hD2.lt (fun e => hoD e.symm)), (hfs.block bd bd2.lt (fun e => hod e.symm)).trans bd2, (hfs.block bl bl2.lt hlo).trans bl2, hf2.trans (Frm.wide (T := fun i => i = D ∨ i = bo ∨ ov.ownBlock = some i) hfs (fun i _ h => .inr (.inl h))) (fun _ _ h => h)⟩
    rw [encKs_snoc]
    exact ownsRow_frm ho hfs (fun k hk e => by subst e; have := (ho.lt _ hk).1; omega)
  have hmv := fun (w3 : World) (g3 : RdAt w3 D ty X p hv) => move_any D ty X p hv (plainOf r) (wrap64 (to - last)) w3 g3
  have HAFT := Lib.hid haft
  have HMV := Lib.hid hmv
  clear haft hmv
  go_region_law (refine step_append_own rfl _ _ 28 rfl base 36 i0 (.agg #[.int .i32 0, .int .i64 0, .int .i64 0, .int .i64 0]) 4 32 Try.underlying28 hi hz0 hz1 hz2 rfl (by decide) ov out.length (encKs out) (by go_simp) (World.ownsRow.alloc hown _) ⟨w.heap.size, 0, none⟩ 1 1 (encK ⟨plainOf r, p⟩) (by go_simp) rfl (s4 _ _) s1 s2 s3 (s5 _) ?_; intro ov' w2 hown2 hgrow2; obtain ⟨g', cap', rfl⟩ := ownsRow_succ hown2; have bo2 := HBO.out w2 _ hgrow2; have co2 := bo2.cell; have fo2 := bo2.frozen)
  all_goals
    obtain ⟨g1, g2, g3, g4, g5, g6⟩ := HAFT.out _ _ _ _ hgrow2 hown2
    generalize w2.setCell ⟨bo, 0, none⟩ (.slice (some ⟨g', 0, none⟩) (out.length + 1) cap') = w3 at *
    clear bo2 co2 fo2 hgrow2 hown2
    have bcd3 := g4.cell
    have bcl3 := g5.cell
    have hbdl3 := g4.lt
    have hbll3 := g5.lt
    have HM := Lib.hid (HMV.out w3.drew g3)
    go_simp
    go_wp2_with (fail)
    go_region_law (refine step_call rfl 44 _ _ rfl HEN.out #[.pointer (some ⟨D, 0, none⟩), .int .i32 (plainOf r), .int .i64 (wrap64 (to - last))] (by go_simp; rw [IntWalk.i64_left]) HM.out ?_; rintro e w4 ⟨⟨v4, rfl⟩, hD4, hf4⟩; refine ⟨_, rfl, ?_⟩)
  all_goals
    have hf5 : Frm (fun i => i = D ∨ i = bo ∨ ov.ownBlock = some i) w3 w4 := Frm.trans (T := fun i => i = D) (a := w3) (b := w3.drew) (Frm.of_below (below_drewN (Below.refl _ _) 1)) hf4 (fun i _ h => .inl h)
    have h6 : (∃ v, Ending.returned v4 = .returned v) ∧ ∃ ov', Boxed w4 bo 28 ov' ∧ w4.ownsRow base 36 4 ov' (out.length + 1) (encKs (out ++ [⟨plainOf r, p⟩])) ∧ RdAt w4 D ty X (mvW p (plainOf r) (wrap64 (to - last))) hv ∧ Frm (fun i => i = D ∨ i = bo ∨ ov.ownBlock = some i) w w4 :=
      ⟨⟨_, rfl⟩, _, (hf4.block bo g1.lt hoD).trans g1, ownsRow_frm g2 (S := fun i => i = D) ((Frm.of_below (S := fun i => i = D) (below_drewN (Below.refl _ w3) 1)).trans hf4 (fun _ _ h => h)) (fun k hk e => by subst e; have := (g2.lt _ hk).1; omega), hD4, g6.trans hf5 (fun _ _ h => h)⟩
    obtain ⟨_, h6⟩ := h6
    have H6 := Lib.hid h6
    clear h6
    go_simp
    go_wp2_with (fail)
    go_end0
    exact ⟨⟨_, rfl⟩, H6.out⟩

end Go.Proofs.Ytbdkiiaiadbmbaa
