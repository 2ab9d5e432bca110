/- input.reader.cells. -/
import Derived.Test.YtbdkiiaiadbmbaaInB
import Derived.Test.YtbdkiiaiadbmbaaOwnIn
import Derived.Test.YtbdkiiaiadbmbaaDecoder
import Derived.Laws.EntriesVeiled
import Derived.ControlIn
import Derived.Sort.CutIn
import Derived.Deep.RegionHeld3
namespace Go.Proofs.Ytbdkiiaiadbmbaa
open Go.RowKit Go.Shelf
set_option linter.unusedVariables false
set_option linter.unusedSimpArgs false
attribute [local go_sem] Oper.semAt_some

/-- how much of what is held and came is sure -/
def sureOf (fin : Bool) (ys : List Int) : Nat :=
  if fin = true then ys.length else if 0 < ys.length - tailOf ys ∧ ys[ys.length - tailOf ys - 1]? = some 13 then ys.length - tailOf ys - 1 else ys.length - tailOf ys
theorem sure_le (fin : Bool) (ys : List Int) : sureOf fin ys ≤ ys.length := by
  unfold sureOf
  repeat (first | omega | split)

theorem owns_at {w : World} {base : Nat} {e : TypeId} {la : Option Addr} {n cap : Nat} {cs : List Value} (h : w.ownsRow base e 1 (.slice la n cap) n cs) (h0 : 0 < n) : ∃ g, la = some ⟨g, 0, none⟩ ∧ ∀ (j : Nat) c, cs[j]? = some c → w.cell? ⟨g, j, none⟩ = some c := by
  obtain ⟨ao, cap', he, _, _, hr⟩ := owns_shape h
  obtain ⟨g, ha, _, _, hg⟩ := hr h0
  injection he with e1 _ _
  exact ⟨g, e1.trans ha, hg⟩
/-- between two rounds -/
def CI (D : Nat) (ty : TypeId) (X : List Value) (hv : Value) (bo : Nat) (w1 : World) (s : St) (W : World) : Prop :=
  ∃ ov, Boxed W (bo + 1) 3 (.int .i64 s.last) ∧ Boxed W (bo + 1 + 1) 21 (.int .i32 s.r) ∧ Boxed W bo 28 ov ∧ RdAt W D ty X s.here hv ∧
    W.ownsRow w1.heap.size 36 4 ov s.out.length (encKs s.out) ∧ Frm (fun i => i = D ∨ i = bo ∨ i = bo + 1 ∨ i = bo + 1 + 1) w1 W
theorem CI.grown {D : Nat} {ty : TypeId} {X : List Value} {hv : Value} {bo : Nat} {w1 : World} {s : St} {A B : World} {row : Option Nat} (h : CI D ty X hv bo w1 s A) (hg : A.grownBy B row)
    (hr : ∀ r, row = some r → w1.heap.size ≤ r ∧ ∃ ob : Obj, A.heap[r]? = some ob ∧ ob.isCells = false) : CI D ty X hv bo w1 s B := by
  obtain ⟨ov, h1, h2, h3, h4, h5, h6⟩ := h
  have hr' := fun r e => (hr r e).2
  exact ⟨ov, boxed_gr h1 hg hr', boxed_gr h2 hg hr', boxed_gr h3 hg hr', h4.of (block_gr h4 hg hr'), owns_gr h5 hg hr', frm_gr h6 hg (fun r e => (hr r e).1)⟩

theorem keeps_frm {S : Nat → Prop} {w w' : World} {lo hi : Nat} (h : Frm S w w') (hhi : hi ≤ w.heap.size) (hS : ∀ k, lo ≤ k → k < hi → ¬ S k) : Keeps lo hi w w' :=
  ⟨h.size, fun k h1 h2 => h.block k (by omega) (hS k h1 h2)⟩
theorem flush_any (D bd bo : Nat) (ty : TypeId) (X : List Value) (hv : Value) (w1 : World) (s : St) (to : Int) (W : World) (h : CI D ty X hv bo w1 s W) (hbd : Boxed W bd 76 (.pointer (some ⟨D, 0, none⟩))) (h1 : D < bd) (h2 : bd < bo) (h3 : bo + 4 < w1.heap.size) (hx : s.out.length + 1 ≤ 2199023255552) :
    Calls Try.prog 43 #[.int .i64 to, .pointer (some ⟨bo + 1, 0, none⟩), .pointer (some ⟨bo + 1 + 1, 0, none⟩), .pointer (some ⟨bo, 0, none⟩), .pointer (some ⟨bd, 0, none⟩)] W fun e W' => (∃ v, e = .returned v) ∧
      CI D ty X hv bo w1 (flushS s to) W' ∧ KeepsOthers W W' ∧ Keeps (bo + 4) w1.heap.size W W' := by
  obtain ⟨ov, hl, hr, ho, hD, hown, hf⟩ := h
  have hsz := hf.size
  by_cases hn : s.last < 0
  · refine (flush_none (bo + 1) (bo + 1 + 1) bo bd D s.last s.r to ov W ⟨hl, hr, ho, hbd⟩ hn).mono ?_
    rintro e W' ⟨⟨v, rfl⟩, rfl⟩
    have : flushS s to = s := by unfold flushS; rw [if_pos hn]
    rw [this]
    exact ⟨⟨_, rfl⟩, ⟨ov, hl, hr, ho, hD, hown, hf⟩, KeepsOthers.refl _, Keeps.refl _ _ _⟩
  · refine (flush_cell (bo + 1) (bo + 1 + 1) bo bd D w1.heap.size ty X s.here hv s.last s.r to ov s.out W ⟨hl, hr, ho, hbd⟩ hD hown hsz (by omega) hx (by omega) (by omega) (by omega) (by omega) (by omega) (by omega) (by omega) (by omega) (by omega) (by omega)).mono ?_
    rintro e W' ⟨⟨v, rfl⟩, ov', ho', hown', hD', hf'⟩
    have : flushS s to = ⟨s.last, s.r, s.out ++ [⟨plainOf s.r, s.here⟩], mvW s.here (plainOf s.r) (wrap64 (to - s.last))⟩ := by unfold flushS; rw [if_neg hn]
    rw [this]
    have hge : ∀ i, ov.ownBlock = some i → w1.heap.size ≤ i := fun i hi => (hown.lt i hi).1
    refine ⟨⟨_, rfl⟩, ⟨ov', (hf'.block _ hl.lt ?_).trans hl, (hf'.block _ hr.lt ?_).trans hr, ho', hD', by simpa using hown', hf.trans hf' ?_⟩, frm_oth hf' ?_, keeps_frm hf' hsz ?_⟩
    · rintro (h | h | h)
      · omega
      · omega
      · have := hge _ h; omega
    · rintro (h | h | h)
      · omega
      · omega
      · have := hge _ h; omega
    · rintro i hi (h | h | h)
      · exact .inl h
      · exact .inr (.inl h)
      · have := hge _ h; omega
    · rintro i (rfl | rfl | h)
      · exact ⟨_, _, _, hD⟩
      · exact ⟨_, _, _, ho⟩
      · obtain ⟨c, hc⟩ := owns_type hown i h
        exact ⟨_, _, _, hc⟩
    · rintro k k1 k2 (h | h | h)
      · omega
      · omega
      · have := hge _ h; omega
/-- behind the stores of a round -/
theorem CI.store {D bd bo : Nat} {ty : TypeId} {X : List Value} {hv : Value} {w1 W : World} {s : St} (h : CI D ty X hv bo w1 s W) (h1 : D < bd) (h2 : bd < bo) (h3 : bo + 4 < w1.heap.size) (a b : Int) :
    CI D ty X hv bo w1 ⟨a, b, s.out, s.here⟩ ((W.setCell ⟨bo + 1, 0, none⟩ (.int .i64 a)).setCell ⟨bo + 1 + 1, 0, none⟩ (.int .i32 b)) := by
  obtain ⟨ov, hl, hr, ho, hD, hown, hf⟩ := h
  have hfs : Frm (fun i => i = bo + 1 ∨ i = bo + 1 + 1) W ((W.setCell ⟨bo + 1, 0, none⟩ (.int .i64 a)).setCell ⟨bo + 1 + 1, 0, none⟩ (.int .i32 b)) :=
    (Frm.setCell (S := fun i => i = bo + 1 ∨ i = bo + 1 + 1) W ⟨bo + 1, 0, none⟩ _ (.inl rfl)).trans (Frm.setCell (S := fun i => i = bo + 1 ∨ i = bo + 1 + 1) _ ⟨bo + 1 + 1, 0, none⟩ _ (.inr rfl)) (fun _ _ h => h)
  refine ⟨ov, (hl.set _).other (by omega) _, (hr.other (by omega) _).set _, (hfs.block _ ho.lt (by omega)).trans ho, hD.of (hfs.block _ hD.lt (by omega)), ownsRow_frm hown hfs (fun k hk e => by have := (hown.lt _ hk).1; omega), hf.trans hfs ?_⟩
  rintro i hi (h | h)
  · exact .inr (.inr (.inl h))
  · exact .inr (.inr (.inr h))
theorem CI.store1 {D bd bo : Nat} {ty : TypeId} {X : List Value} {hv : Value} {w1 W : World} {s : St} (h : CI D ty X hv bo w1 s W) (h1 : D < bd) (h2 : bd < bo) (h3 : bo + 4 < w1.heap.size) (b : Int) :
    CI D ty X hv bo w1 ⟨s.last, b, s.out, s.here⟩ (W.setCell ⟨bo + 1 + 1, 0, none⟩ (.int .i32 b)) := by
  obtain ⟨ov, hl, hr, ho, hD, hown, hf⟩ := h
  have hfs : Frm (fun i => i = bo + 1 + 1) W (W.setCell ⟨bo + 1 + 1, 0, none⟩ (.int .i32 b)) := Frm.setCell _ _ _ rfl
  refine ⟨ov, (hfs.block _ hl.lt (by omega)).trans hl, hr.set _, (hfs.block _ ho.lt (by omega)).trans ho, hD.of (hfs.block _ hD.lt (by omega)), ownsRow_frm hown hfs (fun k hk e => by have := (hown.lt _ hk).1; omega), hf.trans hfs (fun i hi h => .inr (.inr (.inr h)))⟩
theorem CI.bits {D bo bd : Nat} {ty : TypeId} {X : List Value} {hv : Value} {w1 W : World} {s : St} (h : CI D ty X hv bo w1 s W) (h1 : D < bd) (h2 : bd < bo) {fv : Value} (h3 : bo + 4 < w1.heap.size) (hd : Boxed w1 bd 76 (.pointer (some ⟨D, 0, none⟩))) (hfv : Boxed w1 (bo + 1 + 1 + 1) 78 fv) :
    Boxed W bd 76 (.pointer (some ⟨D, 0, none⟩)) ∧ Boxed W (bo + 1 + 1 + 1) 78 fv ∧ Boxed W (bo + 1) 3 (.int .i64 s.last) ∧ Boxed W (bo + 1 + 1) 21 (.int .i32 s.r) := by
  obtain ⟨ov, hl, hr, ho, hD, hown, hf⟩ := h
  exact ⟨(hf.block _ hd.lt (by omega)).trans hd, (hf.block _ hfv.lt (by omega)).trans hfv, hl, hr⟩

set_option maxRecDepth 100000 in
set_option maxHeartbeats 4000000 in
theorem cells_any (D base B : Nat) (ty : TypeId) (X : List Value) (p : Pl) (hv bv : Value) (hs xs : List Int) (fin : Bool) (w : World) (hD : RdAt w D ty X p hv) (hown : w.ownsRow base 5 1 hv hs.length (hs.map (Value.int .u8))) (hDb : D < base) (hbase : base ≤ w.heap.size)
    (hsx : SlI .u8 B w bv xs) (hB : B ≤ w.heap.size) (hb : Byt hs) (hbx : Byt xs) (hl : hs.length + xs.length ≤ 1099511627776) (hp : Fits p 1099511627776) :
    Calls Try.prog 34 #[.pointer (some ⟨D, 0, none⟩), bv, .bool fin] w fun e w' => ∃ u hv', e = .returned u ∧ RdAt w' D ty X (pl (gr (wd ((hs ++ xs).take (sureOf fin (hs ++ xs))))) p) hv' ∧
      w'.ownsRow w.heap.size 5 1 hv' ((hs ++ xs).drop (sureOf fin (hs ++ xs))).length (((hs ++ xs).drop (sureOf fin (hs ++ xs))).map (Value.int .u8)) ∧
      w'.ownsRow w.heap.size 36 4 u (gr (wd ((hs ++ xs).take (sureOf fin (hs ++ xs))))).length (encKs (cl (gr (wd ((hs ++ xs).take (sureOf fin (hs ++ xs))))) p)) ∧ Frm (fun i => i = D ∨ hv.ownBlock = some i) w w' := by
  obtain ⟨i0, hi, hz0, hz1, hz2⟩ := info_parts Try.infoU8b
  have hce : Try.prog.cellsOf 5 = 1 := by kernel_rfl
  have hlt := hD.lt
  have hne : hv.ownBlock ≠ some D := fun e => by have := (hown.lt D e).1; omega
  refine (callsIn_wide (n := 3)).1 ?_
  refine callsIn_of_wp_marks Try.func34 rfl trivial ?_ rfl
  simp only [Try.ntmps34, List.size_toArray, List.length_cons, List.length_nil, Nat.reduceAdd, Nat.reduceSub, Array.replicate_succ, Array.replicate_zero, List.push_toArray, List.append_toArray, List.nil_append, List.cons_append]
  obtain ⟨W0, hW0⟩ : ∃ W0, w.alloc (.cells #[.pointer (some ⟨D, 0, none⟩)] 76) = W0 := ⟨_, rfl⟩
  have hsz0 : W0.heap.size = w.heap.size + 1 := by rw [← hW0]; simp
  have hb0 : Below w.heap.size w W0 := by rw [← hW0]; exact (Below.refl _ w).alloc (Nat.le_refl _) _
  have bd0 : Boxed W0 w.heap.size 76 (.pointer (some ⟨D, 0, none⟩)) := by rw [← hW0]; exact Boxed.new w _ _
  have hD0 := hD.below hb0 hlt
  have hs0 : SlI .u8 B W0 bv xs := hsx.below hb0 hB
  have hown0 : W0.ownsRow base 5 1 hv hs.length (hs.map (Value.int .u8)) := ownsRow_below hown hb0 (Nat.le_refl _)
  subst hW0
  obtain ⟨_, _, _, c3, _, _, _, _⟩ := hD.cells
  have hfa : ∀ (all : Value) (w1 : World), w1.ownsRow base 5 1 all (hs.length + (xs.map (Value.int .u8)).length) (hs.map (Value.int .u8) ++ xs.map (Value.int .u8)) → (w.alloc (.cells #[.pointer (some ⟨D, 0, none⟩)] 76)).grownBy w1 hv.ownBlock →
      ∃ la lcap, all = .slice la (hs ++ xs).length lcap ∧ (hs ++ xs).length ≤ lcap ∧ w1.ownsRow base 5 1 (.slice la (hs ++ xs).length lcap) (hs ++ xs).length ((hs ++ xs).map (Value.int .u8)) ∧ RdAt w1 D ty X p hv ∧ Boxed w1 w.heap.size 76 (.pointer (some ⟨D, 0, none⟩)) ∧ Frm (fun i => i = D ∨ hv.ownBlock = some i) w w1 := by
    intro all w1 ho hg
    have ho' : w1.ownsRow base 5 1 all (hs ++ xs).length ((hs ++ xs).map (Value.int .u8)) := by simpa using ho
    obtain ⟨la, lcap, rfl, hc, _, _⟩ := owns_shape ho'
    exact ⟨la, lcap, rfl, hc, ho', hD0.of (hg.block D (by simp; omega) (fun e => hne e.symm)), bd0.kept hg (fun e => by have := (hown.lt _ e.symm).2; omega), (Frm.of_below hb0).trans (Frm.of_grown (S := fun i => i = D ∨ hv.ownBlock = some i) hg (fun k hk => .inr hk)) (fun _ _ h => h)⟩
  have hb2 := byt_append hb hbx
  have hl2 : (hs ++ xs).length ≤ 1099511627776 := by simpa using hl
  have HFA := Lib.hid hfa
  have HO0 := Lib.hid hown0
  have HS0 := Lib.hid hs0
  have hl3 : hs.length + (xs.map (Value.int .u8)).length ≤ 1099511627776 := by simpa using hl
  have hsl := sure_le fin (hs ++ xs)
  have htl := tail_le (hs ++ xs)
  obtain ⟨S, hS⟩ : ∃ S, sureOf fin (hs ++ xs) = S := ⟨_, rfl⟩
  rw [hS] at hsl ⊢
  have hcase : (fin = true ∧ S = (hs ++ xs).length) ∨ (fin = false ∧ ∃ n, n + tailOf (hs ++ xs) = (hs ++ xs).length ∧ ((n = 0 ∧ n = S) ∨
      ∃ m c, n = m + 1 ∧ Hid ((hs ++ xs)[m]? = some c) ∧ ((c = 13 ∧ m = S) ∨ (c ≠ 13 ∧ n = S)))) := by
    unfold sureOf at hS
    cases fin
    · right
      simp only [Bool.false_eq_true, if_false] at hS
      refine ⟨rfl, (hs ++ xs).length - tailOf (hs ++ xs), by omega, ?_⟩
      rcases Nat.eq_zero_or_pos ((hs ++ xs).length - tailOf (hs ++ xs)) with h0 | h0
      · left
        rw [if_neg (by omega)] at hS
        exact ⟨h0, by omega⟩
      · right
        obtain ⟨c, hc⟩ := get_of_lt (hs ++ xs) (show (hs ++ xs).length - tailOf (hs ++ xs) - 1 < (hs ++ xs).length by omega)
        refine ⟨_, c, by omega, Lib.hid hc, ?_⟩
        rw [hc] at hS
        by_cases h13 : c = 13
        · rw [if_pos ⟨h0, by rw [h13]⟩] at hS
          exact .inl ⟨h13, hS⟩
        · rw [if_neg (by rintro ⟨_, h⟩; injection h with h; exact h13 h)] at hS
          exact .inr ⟨h13, by omega⟩
    · left
      simp only [if_true] at hS
      exact ⟨rfl, hS.symm⟩
  clear hS hfa hown0 hs0 hown hsx bd0 hD0 hb0 hsz0
  generalize hys : hs ++ xs = ys at *
  have HYS := Lib.hid hys
  clear hys
  have hfb : ∀ (w1 : World) (la : Option Addr) (lcap : Nat), ys.length ≤ lcap → w1.ownsRow base 5 1 (.slice la ys.length lcap) ys.length (ys.map (Value.int .u8)) → RdAt w1 D ty X p hv → Boxed w1 w.heap.size 76 (.pointer (some ⟨D, 0, none⟩)) → ∀ fv : Value,
      ∃ W4, (((w1.alloc (.cells #[.slice none 0 0] 28)).alloc (.cells #[.int .i64 (-1)] 3)).alloc (.cells #[.int .i32 0] 21)).alloc (.cells #[fv] 78) = W4 ∧ W4.heap.size = w1.heap.size + 4 ∧ Below w1.heap.size w1 W4 ∧
        Boxed W4 w1.heap.size 28 (.slice none 0 0) ∧ Boxed W4 (w1.heap.size + 1) 3 (.int .i64 (-1)) ∧ Boxed W4 (w1.heap.size + 1 + 1) 21 (.int .i32 0) ∧ Boxed W4 (w1.heap.size + 1 + 1 + 1) 78 fv ∧ SlI .u8 w1.heap.size W4 (.slice la S lcap) (ys.take S) := by
    intro w1 la lcap hlc ho hD1 hb1 fv
    refine ⟨_, rfl, by simp, (((((Below.refl _ w1).alloc (Nat.le_refl _) _).alloc (by simp) _).alloc (by simp; omega) _).alloc (by simp; omega) _), ?_, ?_, ?_, ?_, ?_⟩
    · exact (((Boxed.new w1 _ _).alloc _).alloc _).alloc _
    · have := ((Boxed.new (w1.alloc (.cells #[.slice none 0 0] 28)) 3 (.int .i64 (-1))).alloc (.cells #[.int .i32 0] 21)).alloc (.cells #[fv] 78)
      simpa using this
    · have := (Boxed.new ((w1.alloc (.cells #[.slice none 0 0] 28)).alloc (.cells #[.int .i64 (-1)] 3)) 21 (.int .i32 0)).alloc (.cells #[fv] 78)
      simpa using this
    · have := Boxed.new (((w1.alloc (.cells #[.slice none 0 0] 28)).alloc (.cells #[.int .i64 (-1)] 3)).alloc (.cells #[.int .i32 0] 21)) 78 fv
      simpa using this
    · have h := slI_of_owns ho (Nat.le_refl _)
      have h2 := slI_upto h hsl
      exact h2.below ((((((Below.refl _ w1).alloc (Nat.le_refl _) _).alloc (by simp) _).alloc (by simp; omega) _).alloc (by simp; omega) _)) (Nat.le_refl _)
  have HFB := Lib.hid hfb
  clear hfb
  have htk : (ys.take S).length ≤ 1099511627776 := by simp; omega
  have hbt := hb2.take S
  have HTK : Hid ((ys.take S).length = S) := Lib.hid (by simp; omega)
  -- the cases (gen_cells.py)
  rcases hcase with ⟨rfl, rfl⟩ | ⟨rfl, n, hn, ⟨hn0, rfl⟩ | ⟨m, c, hnm, hgc, ⟨h13, rfl⟩ | ⟨h13, rfl⟩⟩⟩
  · gi_wp2_with (first
      | (gi_at_builtin; refine wpListIn_append_sl rfl _ _ 25 rfl base 5 i0 (.int .u8 0) 1 Try.underlying25 hi hz0 hz1 hz2 rfl hv _ _ rfl HO0.out B bv _ rfl HS0.out.sl (ints_one _ _) (by unfold maxLen; omega) (by omega) (by simp; omega) ?_; intro all w1 hown1 hgrow1; obtain ⟨la, lcap, rfl, hlc, ho1, hD1, bd1, hf1⟩ := HFA.out _ _ hown1 hgrow1; clear hown1 hgrow1)
      | (refine ⟨trivial, ?_⟩; gi_at_call 45; obtain ⟨W4, hW4, hsz4, hb4, bo4, bl4, br4, bf4, hs4⟩ := HFB.out w1 la lcap hlc ho1 hD1 bd1 (.func (.func 43) #[] #[.pointer (some ⟨w1.heap.size + 1, 0, none⟩), .pointer (some ⟨w1.heap.size + 1 + 1, 0, none⟩), .pointer (some ⟨w1.heap.size, 0, none⟩), .pointer (some ⟨w.heap.size, 0, none⟩)]); rw [hW4]; refine (callsIn_wide.2 (all_any w1.heap.size (.slice la ys.length lcap) (ys.take ys.length) W4 hs4 (by omega) htk)).mono ?_; rintro e w2 ⟨rfl, hbox, hsz2, hbel⟩))
    all_goals
      obtain ⟨u, hcu, hu, hlow⟩ := hbox
      rw [hsz4] at hcu hlow hsz2
      have bo2 := boxed_below bo4 hbel (by omega)
      have bl2 := boxed_below bl4 hbel (by omega)
      have br2 := boxed_below br4 hbel (by omega)
      have bf2 := boxed_below bf4 hbel (by omega)
      have bd2 := boxed_below (boxed_below bd1 hb4 bd1.lt) hbel (by have := bd1.lt; omega)
      have hD2 := (hD1.below hb4 hD1.lt).below hbel (by have := hD1.lt; omega)
      have ho2 := ownsRow_below (ownsRow_below ho1 hb4 (Nat.le_refl _)) hbel (Nat.le_refl _)
      have hf2 := (hf1.next hb4).next hbel
      have hww := hf1.size
      have hbw := bd1.lt
      have hka : ∀ k, (Value.slice la ys.length lcap).ownBlock = some k → base ≤ k ∧ k < w1.heap.size := ho1.lt
      clear hW4 bo4 bl4 br4 bf4 bd1 hD1 ho1 hf1 hs4 hb4 hbel
    refine wpIn_rangeFunc_ownG rfl (by omega) (gf := 51) (lb := #[.pointer (some ⟨w1.heap.size + 4, 0, none⟩)]) rfl trivial (enters_of Try.func51 (by kernel_rfl) rfl)
      (all_stops (3 - 1) (by omega) (w1.heap.size + 4) (w1.heap.size + 4) w2.heap.size u (ys.take ys.length) hbt htk w2 (Nat.le_refl _) hsz2 (fun b hb => by have := hlow b hb; omega) (Nat.le_refl _) hcu hu) keepsK_t (keepsK_b (Nat.le_refl _)) (Below.refl _ _) (fun _ => rfl)
      (fun pre W => CI D ty X hv w1.heap.size w2 (stS p pre) W)
      (fun _ _ _ => False) ?hI1 (fun _ _ _ _ _ hs _ _ => hs) ?h01 ?a11 ?assign1 ?body1 ?done1 ?stop1
    case assign1 =>
      intro l x W K hK
      have HK := Lib.hid hK
      clear hK
      simp only [encPr]
      gi_wp2
      exact HK.out
    case hI1 => exact fun s A B row hs hg hr => hs.grown hg hr
    case h01 => exact ⟨_, bl2, br2, bo2, hD2, World.ownsRow_nil _ _ _ _, Frm.refl _ _⟩
    case stop1 =>
      rintro D' c pre W _ _ h _
      exact h.elim
    case body1 =>
      rintro l pre x W hCI hlt'
      have hol := stS_out_length p _ pre rfl
      have hpl := prs_length (ys.take ys.length)
      have hsn := stS_snoc p pre x
      generalize stS p pre = s at hCI hol hsn
      obtain ⟨hbd, hbf, hbl, hbr⟩ := hCI.bits hlt hbw hsz2 bd2 bf2
      have cl := hbl.cell
      have cr := hbr.cell
      have cf := hbf.cell
      have fr := hbr.frozen
      by_cases hm : 0 ≤ s.last ∧ s.r = 13 ∧ x.2 = 10
      · obtain ⟨m1, m2, m3⟩ := hm
        have hst : stS p (pre ++ [x]) = ⟨s.last, 10, s.out, s.here⟩ := by rw [hsn]; unfold stepS; rw [if_pos ⟨m1, m2, m3⟩]
        have HST := Lib.hid hst
        have b2 : (s.r == 13) = true := by simp [m2]
        have b3 : (x.2 == 10) = true := by simp [m3]
        have HC := Lib.hid (hCI.store1 hlt hbw hsz2 10)
        clear m2 m3 hst hCI hsn
        gi_wp2
        exact ⟨(KeepsOthers.setCell _ _ _).from _, Keeps.setCell _ _ _ _ _ (.inl (by show w1.heap.size + 1 + 1 < w1.heap.size + 4; omega)), by show CI _ _ _ _ _ _ (stS p (pre ++ [x])) _; rw [HST.out]; exact HC.out⟩
      · have hst : stS p (pre ++ [x]) = ⟨x.1, x.2, (flushS s x.1).out, (flushS s x.1).here⟩ := by rw [hsn]; unfold stepS; rw [if_neg hm]
        have HST := Lib.hid hst
        have hfl := flush_any D w.heap.size w1.heap.size ty X hv w2 s x.1 W hCI hbd hlt hbw hsz2 (by omega)
        have hdep : 1 ≤ 3 - 1 - 1 := by omega
        have HFL := Lib.hid hfl
        clear hfl hst hCI hsn
        have hcs : s.last < 0 ∨ (0 ≤ s.last ∧ (s.r == 13) = false) ∨ (0 ≤ s.last ∧ (s.r == 13) = true ∧ (x.2 == 10) = false) := by
          by_cases q1 : s.last < 0
          · exact .inl q1
          · by_cases q2 : s.r = 13
            · exact .inr (.inr ⟨by omega, by simp [q2], by simp; intro q3; exact hm ⟨by omega, q2, q3⟩⟩)
            · exact .inr (.inl ⟨by omega, by simp [q2]⟩)
        clear hm
        rcases hcs with q1 | ⟨q1, q2⟩ | ⟨q1, q2, q3⟩
        all_goals
          gi_wp2_with (refine ⟨trivial, ?_⟩; gi_at_call 43; refine (CallsIn.inRound l (callsIn_wide.2 HFL.out)).mono ?_; rintro e W2 ⟨⟨v, rfl⟩, hCI2, ko2, kk2⟩; have hq := hCI2.bits hlt hbw hsz2 bd2 bf2; obtain ⟨hbd2, hbf2, hbl2, hbr2⟩ := hq; have cl2 := hbl2.cell; have cr2 := hbr2.cell; have fl2 := hbl2.frozen; have fr2 := hbr2.frozen)
          exact ⟨(ko2.trans ((KeepsOthers.setCell _ _ _).trans (KeepsOthers.setCell _ _ _))).from _, kk2.trans ((Keeps.setCell _ _ _ _ _ (.inl (by show w1.heap.size + 1 < w1.heap.size + 4; omega))).trans (Keeps.setCell _ _ _ _ _ (.inl (by show w1.heap.size + 1 + 1 < w1.heap.size + 4; omega)))), by show CI _ _ _ _ _ _ (stS p (pre ++ [x])) _; rw [HST.out]; exact hCI2.store hlt hbw hsz2 _ _⟩
    case done1 =>
      rintro D' ps W hD' rfl hCI hK
      have hol := stS_out_length p _ (prs (ys.take ys.length)) rfl
      have hpl := prs_length (ys.take ys.length)
      have hfa := fold_all (ys.take ys.length) htk p (by obtain ⟨a1, a2, a3, a4, a5, a6⟩ := hp; exact ⟨a1, a2, a3, by omega, by omega, by omega⟩)
      rw [HTK.out] at hfa
      generalize stS p (prs (ys.take ys.length)) = s at hCI hol hfa
      obtain ⟨hbd, hbf, hbl, hbr⟩ := hCI.bits hlt hbw hsz2 bd2 bf2
      have cf := hbf.cell
      have hfl := flush_any D w.heap.size w1.heap.size ty X hv w2 s ys.length W hCI hbd hlt hbw hsz2 (by omega)
      have HFL := Lib.hid hfl
      have HK := Lib.hid hK
      have HFO := Lib.hid hfa
      clear hfl hCI hK hfa
      gi_wp2_with (refine ⟨trivial, ?_⟩; gi_at_call 43; refine (callsIn_wide.2 HFL.out).mono ?_; rintro e W2 ⟨⟨v, rfl⟩, hCI2, ko2, kk2⟩)
      obtain ⟨hbd2, hbf2, _, _⟩ := hCI2.bits hlt hbw hsz2 bd2 bf2
      obtain ⟨ov, _, _, hov, hD3, hown3, hf3⟩ := hCI2
      obtain ⟨hfo1, hfo2⟩ := HFO.out
      rw [hfo1] at hown3
      rw [hfo2] at hD3
      have hcl : (cl (gr (wd (ys.take ys.length))) p).length = (gr (wd (ys.take ys.length))).length := cl_length _ _
      rw [hcl] at hown3
      obtain ⟨PL, hPL⟩ : ∃ PL, pl (gr (wd (ys.take ys.length))) p = PL := ⟨_, rfl⟩
      rw [hPL] at hD3
      have HPL := Lib.hid hPL
      clear hPL
      obtain ⟨EN, hEN⟩ : ∃ EN, encKs (cl (gr (wd (ys.take ys.length))) p) = EN := ⟨_, rfl⟩
      rw [hEN] at hown3
      have HEN := Lib.hid hEN
      clear hEN
      obtain ⟨NN, hNN⟩ : ∃ NN, (gr (wd (ys.take ys.length))).length = NN := ⟨_, rfl⟩
      rw [hNN] at hown3
      have HNN := Lib.hid hNN
      clear hNN
      have hK2 := ko2.2 _ _ HK.out rfl
      have hsz3 := hf3.size
      have ho3 : SlI .u8 w2.heap.size W2 (.slice la ys.length lcap) ys := (slI_of_owns ho2 (Nat.le_refl _)).frm hf3 (Nat.le_refl _) (fun k hk => by
        have := hka k hk
        omega)
      have hsub := slI_sub ho3 (lo := ys.length) (hi := ys.length) hsl (Nat.le_refl _)
      rw [List.take_length] at hsub
      have hrf := fun w0 => run_sub_from (P := Try.prog) 25 5 Try.underlying25 i0 hi hce la ys.length lcap ys.length hsl w0
      have hdl : (ys.drop ys.length).length ≤ 1099511627776 := by rw [List.length_drop]; omega
      obtain ⟨zs, hzs⟩ : ∃ zs, ys.drop ys.length = zs := ⟨_, rfl⟩
      rw [hzs] at hsub hdl
      have HZS := Lib.hid hzs
      clear hzs
      generalize subV la lcap ys.length ys.length = sv at hsub hrf
      have haf : ∀ W3 : World, W2.drew.grownBy W3 none → Below W2.heap.size W2 W3 := fun W3 hg => ((Below.refl W2.heap.size W2).drew).grown hg (Nat.le_refl _) (fun k e => by cases e)
      have HAF := Lib.hid haf
      have hD'2 : D' < W2.heap.size := (Array.getElem?_eq_some_iff.1 hK2).1
      have hfin : ∀ (W3 : World) (ha : Option Addr) (hcap : Nat), Below W2.heap.size W2 W3 → W3.ownsRow w.heap.size 5 1 (.slice ha zs.length hcap) zs.length (zs.map (Value.int .u8)) →
          (W3.setCell ⟨D, 3, none⟩ (.slice ha zs.length hcap)).cell? ⟨w1.heap.size, 0, none⟩ = some ov ∧ (W3.setCell ⟨D, 3, none⟩ (.slice ha zs.length hcap)).heap[D']? = some (.deferred (some [])) ∧
          (RdAt ((W3.setCell ⟨D, 3, none⟩ (.slice ha zs.length hcap)).putObj D' (.deferred none)) D ty X PL (.slice ha zs.length hcap) ∧
            ((W3.setCell ⟨D, 3, none⟩ (.slice ha zs.length hcap)).putObj D' (.deferred none)).ownsRow w.heap.size 5 1 (.slice ha zs.length hcap) zs.length (zs.map (Value.int .u8)) ∧
            ((W3.setCell ⟨D, 3, none⟩ (.slice ha zs.length hcap)).putObj D' (.deferred none)).ownsRow w.heap.size 36 4 ov NN EN ∧ Frm (fun i => i = D ∨ hv.ownBlock = some i) w ((W3.setCell ⟨D, 3, none⟩ (.slice ha zs.length hcap)).putObj D' (.deferred none))) := by
        intro W3 ha hcap hb3 ho5
        have hsz5 := hb3.size
        have hfs : Frm (fun i => i = D) W3 (W3.setCell ⟨D, 3, none⟩ (.slice ha zs.length hcap)) := Frm.setCell _ _ _ rfl
        have hfp : Frm (fun i => i = D') (W3.setCell ⟨D, 3, none⟩ (.slice ha zs.length hcap)) ((W3.setCell ⟨D, 3, none⟩ (.slice ha zs.length hcap)).putObj D' (.deferred none)) := Frm.of_grown (grownBy_putObj' _ _ _) (fun k hk => by cases hk; rfl)
        have hov3 := boxed_below hov hb3 hov.lt
        have hK3 : W3.heap[D']? = some (.deferred (some [])) := (hb3.block D' hD'2).trans hK2
        have hK4 : (W3.setCell ⟨D, 3, none⟩ (.slice ha zs.length hcap)).heap[D']? = some (.deferred (some [])) := (hfs.block D' (by omega) (by omega)).trans hK3
        have hD3' := (hD3.of (hb3.block D hD3.lt)).set3 (.slice ha zs.length hcap)
        have hown5 := ownsRow_below hown3 hb3 (Nat.le_refl _)
        have hown6 := ownsRow_frm hown5 hfs (fun k hk e => by subst e; have := (hown5.lt _ hk).1; omega)
        have ho6 := ownsRow_frm ho5 hfs (fun k hk e => by subst e; have := (ho5.lt _ hk).1; omega)
        refine ⟨Boxed.cell (t := 28) ((hfs.block _ hov3.lt (by omega)).trans hov3), hK4, hD3'.of (hfp.block D hD3'.lt (by omega)), ownsRow_putObj ho6 _ hK4 rfl, ownsRow_base (ownsRow_putObj hown6 _ hK4 rfl) (by omega), ?_⟩
        refine (((hf2.trans hf3 ?_).next hb3).trans hfs ?_).trans hfp ?_
        · rintro i hi (h | h | h | h)
          · exact .inl h
          · omega
          · omega
          · omega
        · intro i hi h
          exact .inl h
        · intro i hi h
          omega
      have HFIN := Lib.hid hfin
      clear hfin
      have cd2 := hbd2.cell
      have hbl1 := hbd2.lt
      have co2 := hov.cell
      obtain ⟨e0, e1, e2, e3, k0, k1, k2, k3⟩ := hD3.cells
      have s1 : 0 + (zs.map (Value.int .u8)).length ≤ maxLen := by simp [maxLen]; omega
      have s2 : (0 + (zs.map (Value.int .u8)).length) * 1 ≤ 140737488355328 := by simp; omega
      have s3 : w.heap.size ≤ W2.drew.heap.size := by show w.heap.size ≤ W2.heap.size; omega
      have hfm : Try.prog.follows .mixedOrders = true := by kernel_rfl
      have hsubd : Sl w2.heap.size W2.drew sv (zs.map (Value.int .u8)) := hsub.sl
      refine wpIn_wide.2 ?_
      refine wp_region_noPanic ?_
      go_region_law (refine step_append_sl rfl _ _ 25 rfl w.heap.size 5 i0 (.int .u8 0) 1 Try.underlying25 hi hz0 hz1 hz2 rfl (.slice none 0 0) 0 [] (by go_simp) (World.ownsRow_nil _ _ _ _) w2.heap.size sv _ (by go_simp) hsubd (ints_one _ _) s1 s2 s3 ?_; intro hv' W3 hown4 hgrow4; obtain ⟨ha, hcap, rfl, hhc, _, _⟩ := owns_shape hown4; have hb3 := HAF.out _ hgrow4; have hD4 := hD3.of (hb3.block D hD3.lt); have q := hD4.cells; obtain ⟨g0, g1, g2, g3, m0, m1, m2, m3⟩ := q; have hbd4 := boxed_below hbd2 hb3 hbl1; have cd4 := hbd4.cell)
      all_goals
        refine NoPanic.normal ?_
        obtain ⟨f1, f2, f3⟩ := HFIN.out W3 ha hcap hb3 (by simpa using hown4)
        have hzl : 0 + (zs.map (Value.int .u8)).length = zs.length := by simp
        try rw [hzl]
        generalize W3.setCell ⟨D, 3, none⟩ (.slice ha zs.length hcap) = W4 at *
        clear hown4 hgrow4 hhc hb3 hD4 g0 g1 g2 g3 m0 m1 m2 m3 hbd4 cd4
        have HF3 := Lib.hid f3
        clear f3
        go_simp
        gi_wp2
        have q1 := HPL.out
        have q2 := HEN.out
        have q3 := HNN.out
        have q4 := HZS.out
        subst q1 q2 q3 q4
        exact leaves_mark1 f2 ⟨ov, by simp [results, Try.results34, go_sem], ov, _, rfl, HF3.out⟩
  · have e1 : IntKind.i64.wrap ((ys.length : Int) - (tailOf ys : Int)) = (n : Int) := by rw [IntWalk.i64_in _ (by omega)]; omega
    have hnz : ¬ (0 < n) := by omega
    clear hn hn0
    gi_wp2_with (first
      | (gi_at_builtin; refine wpListIn_append_sl rfl _ _ 25 rfl base 5 i0 (.int .u8 0) 1 Try.underlying25 hi hz0 hz1 hz2 rfl hv _ _ rfl HO0.out B bv _ rfl HS0.out.sl (ints_one _ _) (by unfold maxLen; omega) (by omega) (by simp; omega) ?_; intro all w1 hown1 hgrow1; obtain ⟨la, lcap, rfl, hlc, ho1, hD1, bd1, hf1⟩ := HFA.out _ _ hown1 hgrow1; clear hown1 hgrow1)
      | (refine ⟨trivial, ?_⟩; gi_at_call 42; refine (callsIn_wide.2 (tail_any _ _ ys _ (slI_of_owns ho1 (Nat.le_refl _)) hb2 hl2)).mono ?_; rintro e w5 ⟨rfl, hd5⟩; have ho5 := ownsRow_drew ho1 hd5; have hD5 := hD1.of (hd5.step.block D hD1.lt); have bd5 := boxed_below bd1 hd5.step bd1.lt; have hf5 := hf1.next hd5.step; clear ho1 hD1 bd1 hf1 hd5)
      | (refine ⟨trivial, ?_⟩; gi_at_call 45; obtain ⟨W4, hW4, hsz4, hb4, bo4, bl4, br4, bf4, hs4⟩ := HFB.out w5 la lcap hlc ho5 hD5 bd5 (.func (.func 43) #[] #[.pointer (some ⟨w5.heap.size + 1, 0, none⟩), .pointer (some ⟨w5.heap.size + 1 + 1, 0, none⟩), .pointer (some ⟨w5.heap.size, 0, none⟩), .pointer (some ⟨w.heap.size, 0, none⟩)]); rw [hW4]; refine (callsIn_wide.2 (all_any w5.heap.size (.slice la n lcap) (ys.take n) W4 hs4 (by omega) htk)).mono ?_; rintro e w2 ⟨rfl, hbox, hsz2, hbel⟩))
    all_goals
      obtain ⟨u, hcu, hu, hlow⟩ := hbox
      rw [hsz4] at hcu hlow hsz2
      have bo2 := boxed_below bo4 hbel (by omega)
      have bl2 := boxed_below bl4 hbel (by omega)
      have br2 := boxed_below br4 hbel (by omega)
      have bf2 := boxed_below bf4 hbel (by omega)
      have bd2 := boxed_below (boxed_below bd5 hb4 bd5.lt) hbel (by have := bd5.lt; omega)
      have hD2 := (hD5.below hb4 hD5.lt).below hbel (by have := hD5.lt; omega)
      have ho2 := ownsRow_below (ownsRow_below ho5 hb4 (Nat.le_refl _)) hbel (Nat.le_refl _)
      have hf2 := (hf5.next hb4).next hbel
      have hww := hf5.size
      have hbw := bd5.lt
      have hka : ∀ k, (Value.slice la ys.length lcap).ownBlock = some k → base ≤ k ∧ k < w5.heap.size := ho5.lt
      clear hW4 bo4 bl4 br4 bf4 bd5 hD5 ho5 hf5 hs4 hb4 hbel
    refine wpIn_rangeFunc_ownG rfl (by omega) (gf := 51) (lb := #[.pointer (some ⟨w5.heap.size + 4, 0, none⟩)]) rfl trivial (enters_of Try.func51 (by kernel_rfl) rfl)
      (all_stops (3 - 1) (by omega) (w5.heap.size + 4) (w5.heap.size + 4) w2.heap.size u (ys.take n) hbt htk w2 (Nat.le_refl _) hsz2 (fun b hb => by have := hlow b hb; omega) (Nat.le_refl _) hcu hu) keepsK_t (keepsK_b (Nat.le_refl _)) (Below.refl _ _) (fun _ => rfl)
      (fun pre W => CI D ty X hv w5.heap.size w2 (stS p pre) W)
      (fun _ _ _ => False) ?hI2 (fun _ _ _ _ _ hs _ _ => hs) ?h02 ?a12 ?assign2 ?body2 ?done2 ?stop2
    case assign2 =>
      intro l x W K hK
      have HK := Lib.hid hK
      clear hK
      simp only [encPr]
      gi_wp2
      exact HK.out
    case hI2 => exact fun s A B row hs hg hr => hs.grown hg hr
    case h02 => exact ⟨_, bl2, br2, bo2, hD2, World.ownsRow_nil _ _ _ _, Frm.refl _ _⟩
    case stop2 =>
      rintro D' c pre W _ _ h _
      exact h.elim
    case body2 =>
      rintro l pre x W hCI hlt'
      have hol := stS_out_length p _ pre rfl
      have hpl := prs_length (ys.take n)
      have hsn := stS_snoc p pre x
      generalize stS p pre = s at hCI hol hsn
      obtain ⟨hbd, hbf, hbl, hbr⟩ := hCI.bits hlt hbw hsz2 bd2 bf2
      have cl := hbl.cell
      have cr := hbr.cell
      have cf := hbf.cell
      have fr := hbr.frozen
      by_cases hm : 0 ≤ s.last ∧ s.r = 13 ∧ x.2 = 10
      · obtain ⟨m1, m2, m3⟩ := hm
        have hst : stS p (pre ++ [x]) = ⟨s.last, 10, s.out, s.here⟩ := by rw [hsn]; unfold stepS; rw [if_pos ⟨m1, m2, m3⟩]
        have HST := Lib.hid hst
        have b2 : (s.r == 13) = true := by simp [m2]
        have b3 : (x.2 == 10) = true := by simp [m3]
        have HC := Lib.hid (hCI.store1 hlt hbw hsz2 10)
        clear m2 m3 hst hCI hsn
        gi_wp2
        exact ⟨(KeepsOthers.setCell _ _ _).from _, Keeps.setCell _ _ _ _ _ (.inl (by show w5.heap.size + 1 + 1 < w5.heap.size + 4; omega)), by show CI _ _ _ _ _ _ (stS p (pre ++ [x])) _; rw [HST.out]; exact HC.out⟩
      · have hst : stS p (pre ++ [x]) = ⟨x.1, x.2, (flushS s x.1).out, (flushS s x.1).here⟩ := by rw [hsn]; unfold stepS; rw [if_neg hm]
        have HST := Lib.hid hst
        have hfl := flush_any D w.heap.size w5.heap.size ty X hv w2 s x.1 W hCI hbd hlt hbw hsz2 (by omega)
        have hdep : 1 ≤ 3 - 1 - 1 := by omega
        have HFL := Lib.hid hfl
        clear hfl hst hCI hsn
        have hcs : s.last < 0 ∨ (0 ≤ s.last ∧ (s.r == 13) = false) ∨ (0 ≤ s.last ∧ (s.r == 13) = true ∧ (x.2 == 10) = false) := by
          by_cases q1 : s.last < 0
          · exact .inl q1
          · by_cases q2 : s.r = 13
            · exact .inr (.inr ⟨by omega, by simp [q2], by simp; intro q3; exact hm ⟨by omega, q2, q3⟩⟩)
            · exact .inr (.inl ⟨by omega, by simp [q2]⟩)
        clear hm
        rcases hcs with q1 | ⟨q1, q2⟩ | ⟨q1, q2, q3⟩
        all_goals
          gi_wp2_with (refine ⟨trivial, ?_⟩; gi_at_call 43; refine (CallsIn.inRound l (callsIn_wide.2 HFL.out)).mono ?_; rintro e W2 ⟨⟨v, rfl⟩, hCI2, ko2, kk2⟩; have hq := hCI2.bits hlt hbw hsz2 bd2 bf2; obtain ⟨hbd2, hbf2, hbl2, hbr2⟩ := hq; have cl2 := hbl2.cell; have cr2 := hbr2.cell; have fl2 := hbl2.frozen; have fr2 := hbr2.frozen)
          exact ⟨(ko2.trans ((KeepsOthers.setCell _ _ _).trans (KeepsOthers.setCell _ _ _))).from _, kk2.trans ((Keeps.setCell _ _ _ _ _ (.inl (by show w5.heap.size + 1 < w5.heap.size + 4; omega))).trans (Keeps.setCell _ _ _ _ _ (.inl (by show w5.heap.size + 1 + 1 < w5.heap.size + 4; omega)))), by show CI _ _ _ _ _ _ (stS p (pre ++ [x])) _; rw [HST.out]; exact hCI2.store hlt hbw hsz2 _ _⟩
    case done2 =>
      rintro D' ps W hD' rfl hCI hK
      have hol := stS_out_length p _ (prs (ys.take n)) rfl
      have hpl := prs_length (ys.take n)
      have hfa := fold_all (ys.take n) htk p (by obtain ⟨a1, a2, a3, a4, a5, a6⟩ := hp; exact ⟨a1, a2, a3, by omega, by omega, by omega⟩)
      rw [HTK.out] at hfa
      generalize stS p (prs (ys.take n)) = s at hCI hol hfa
      obtain ⟨hbd, hbf, hbl, hbr⟩ := hCI.bits hlt hbw hsz2 bd2 bf2
      have cf := hbf.cell
      have hfl := flush_any D w.heap.size w5.heap.size ty X hv w2 s n W hCI hbd hlt hbw hsz2 (by omega)
      have HFL := Lib.hid hfl
      have HK := Lib.hid hK
      have HFO := Lib.hid hfa
      clear hfl hCI hK hfa
      gi_wp2_with (refine ⟨trivial, ?_⟩; gi_at_call 43; refine (callsIn_wide.2 HFL.out).mono ?_; rintro e W2 ⟨⟨v, rfl⟩, hCI2, ko2, kk2⟩)
      obtain ⟨hbd2, hbf2, _, _⟩ := hCI2.bits hlt hbw hsz2 bd2 bf2
      obtain ⟨ov, _, _, hov, hD3, hown3, hf3⟩ := hCI2
      obtain ⟨hfo1, hfo2⟩ := HFO.out
      rw [hfo1] at hown3
      rw [hfo2] at hD3
      have hcl : (cl (gr (wd (ys.take n))) p).length = (gr (wd (ys.take n))).length := cl_length _ _
      rw [hcl] at hown3
      obtain ⟨PL, hPL⟩ : ∃ PL, pl (gr (wd (ys.take n))) p = PL := ⟨_, rfl⟩
      rw [hPL] at hD3
      have HPL := Lib.hid hPL
      clear hPL
      obtain ⟨EN, hEN⟩ : ∃ EN, encKs (cl (gr (wd (ys.take n))) p) = EN := ⟨_, rfl⟩
      rw [hEN] at hown3
      have HEN := Lib.hid hEN
      clear hEN
      obtain ⟨NN, hNN⟩ : ∃ NN, (gr (wd (ys.take n))).length = NN := ⟨_, rfl⟩
      rw [hNN] at hown3
      have HNN := Lib.hid hNN
      clear hNN
      have hK2 := ko2.2 _ _ HK.out rfl
      have hsz3 := hf3.size
      have ho3 : SlI .u8 w2.heap.size W2 (.slice la ys.length lcap) ys := (slI_of_owns ho2 (Nat.le_refl _)).frm hf3 (Nat.le_refl _) (fun k hk => by
        have := hka k hk
        omega)
      have hsub := slI_sub ho3 (lo := n) (hi := ys.length) hsl (Nat.le_refl _)
      rw [List.take_length] at hsub
      have hrf := fun w0 => run_sub_from (P := Try.prog) 25 5 Try.underlying25 i0 hi hce la ys.length lcap n hsl w0
      have hdl : (ys.drop n).length ≤ 1099511627776 := by rw [List.length_drop]; omega
      obtain ⟨zs, hzs⟩ : ∃ zs, ys.drop n = zs := ⟨_, rfl⟩
      rw [hzs] at hsub hdl
      have HZS := Lib.hid hzs
      clear hzs
      generalize subV la lcap n ys.length = sv at hsub hrf
      have haf : ∀ W3 : World, W2.drew.grownBy W3 none → Below W2.heap.size W2 W3 := fun W3 hg => ((Below.refl W2.heap.size W2).drew).grown hg (Nat.le_refl _) (fun k e => by cases e)
      have HAF := Lib.hid haf
      have hD'2 : D' < W2.heap.size := (Array.getElem?_eq_some_iff.1 hK2).1
      have hfin : ∀ (W3 : World) (ha : Option Addr) (hcap : Nat), Below W2.heap.size W2 W3 → W3.ownsRow w.heap.size 5 1 (.slice ha zs.length hcap) zs.length (zs.map (Value.int .u8)) →
          (W3.setCell ⟨D, 3, none⟩ (.slice ha zs.length hcap)).cell? ⟨w5.heap.size, 0, none⟩ = some ov ∧ (W3.setCell ⟨D, 3, none⟩ (.slice ha zs.length hcap)).heap[D']? = some (.deferred (some [])) ∧
          (RdAt ((W3.setCell ⟨D, 3, none⟩ (.slice ha zs.length hcap)).putObj D' (.deferred none)) D ty X PL (.slice ha zs.length hcap) ∧
            ((W3.setCell ⟨D, 3, none⟩ (.slice ha zs.length hcap)).putObj D' (.deferred none)).ownsRow w.heap.size 5 1 (.slice ha zs.length hcap) zs.length (zs.map (Value.int .u8)) ∧
            ((W3.setCell ⟨D, 3, none⟩ (.slice ha zs.length hcap)).putObj D' (.deferred none)).ownsRow w.heap.size 36 4 ov NN EN ∧ Frm (fun i => i = D ∨ hv.ownBlock = some i) w ((W3.setCell ⟨D, 3, none⟩ (.slice ha zs.length hcap)).putObj D' (.deferred none))) := by
        intro W3 ha hcap hb3 ho5
        have hsz5 := hb3.size
        have hfs : Frm (fun i => i = D) W3 (W3.setCell ⟨D, 3, none⟩ (.slice ha zs.length hcap)) := Frm.setCell _ _ _ rfl
        have hfp : Frm (fun i => i = D') (W3.setCell ⟨D, 3, none⟩ (.slice ha zs.length hcap)) ((W3.setCell ⟨D, 3, none⟩ (.slice ha zs.length hcap)).putObj D' (.deferred none)) := Frm.of_grown (grownBy_putObj' _ _ _) (fun k hk => by cases hk; rfl)
        have hov3 := boxed_below hov hb3 hov.lt
        have hK3 : W3.heap[D']? = some (.deferred (some [])) := (hb3.block D' hD'2).trans hK2
        have hK4 : (W3.setCell ⟨D, 3, none⟩ (.slice ha zs.length hcap)).heap[D']? = some (.deferred (some [])) := (hfs.block D' (by omega) (by omega)).trans hK3
        have hD3' := (hD3.of (hb3.block D hD3.lt)).set3 (.slice ha zs.length hcap)
        have hown5 := ownsRow_below hown3 hb3 (Nat.le_refl _)
        have hown6 := ownsRow_frm hown5 hfs (fun k hk e => by subst e; have := (hown5.lt _ hk).1; omega)
        have ho6 := ownsRow_frm ho5 hfs (fun k hk e => by subst e; have := (ho5.lt _ hk).1; omega)
        refine ⟨Boxed.cell (t := 28) ((hfs.block _ hov3.lt (by omega)).trans hov3), hK4, hD3'.of (hfp.block D hD3'.lt (by omega)), ownsRow_putObj ho6 _ hK4 rfl, ownsRow_base (ownsRow_putObj hown6 _ hK4 rfl) (by omega), ?_⟩
        refine (((hf2.trans hf3 ?_).next hb3).trans hfs ?_).trans hfp ?_
        · rintro i hi (h | h | h | h)
          · exact .inl h
          · omega
          · omega
          · omega
        · intro i hi h
          exact .inl h
        · intro i hi h
          omega
      have HFIN := Lib.hid hfin
      clear hfin
      have cd2 := hbd2.cell
      have hbl1 := hbd2.lt
      have co2 := hov.cell
      obtain ⟨e0, e1, e2, e3, k0, k1, k2, k3⟩ := hD3.cells
      have s1 : 0 + (zs.map (Value.int .u8)).length ≤ maxLen := by simp [maxLen]; omega
      have s2 : (0 + (zs.map (Value.int .u8)).length) * 1 ≤ 140737488355328 := by simp; omega
      have s3 : w.heap.size ≤ W2.drew.heap.size := by show w.heap.size ≤ W2.heap.size; omega
      have hfm : Try.prog.follows .mixedOrders = true := by kernel_rfl
      have hsubd : Sl w2.heap.size W2.drew sv (zs.map (Value.int .u8)) := hsub.sl
      refine wpIn_wide.2 ?_
      refine wp_region_noPanic ?_
      go_region_law (refine step_append_sl rfl _ _ 25 rfl w.heap.size 5 i0 (.int .u8 0) 1 Try.underlying25 hi hz0 hz1 hz2 rfl (.slice none 0 0) 0 [] (by go_simp) (World.ownsRow_nil _ _ _ _) w2.heap.size sv _ (by go_simp) hsubd (ints_one _ _) s1 s2 s3 ?_; intro hv' W3 hown4 hgrow4; obtain ⟨ha, hcap, rfl, hhc, _, _⟩ := owns_shape hown4; have hb3 := HAF.out _ hgrow4; have hD4 := hD3.of (hb3.block D hD3.lt); have q := hD4.cells; obtain ⟨g0, g1, g2, g3, m0, m1, m2, m3⟩ := q; have hbd4 := boxed_below hbd2 hb3 hbl1; have cd4 := hbd4.cell)
      all_goals
        refine NoPanic.normal ?_
        obtain ⟨f1, f2, f3⟩ := HFIN.out W3 ha hcap hb3 (by simpa using hown4)
        have hzl : 0 + (zs.map (Value.int .u8)).length = zs.length := by simp
        try rw [hzl]
        generalize W3.setCell ⟨D, 3, none⟩ (.slice ha zs.length hcap) = W4 at *
        clear hown4 hgrow4 hhc hb3 hD4 g0 g1 g2 g3 m0 m1 m2 m3 hbd4 cd4
        have HF3 := Lib.hid f3
        clear f3
        go_simp
        gi_wp2
        have q1 := HPL.out
        have q2 := HEN.out
        have q3 := HNN.out
        have q4 := HZS.out
        subst q1 q2 q3 q4
        exact leaves_mark1 f2 ⟨ov, by simp [results, Try.results34, go_sem], ov, _, rfl, HF3.out⟩
  · have e1 : IntKind.i64.wrap ((ys.length : Int) - (tailOf ys : Int)) = (n : Int) := by rw [IntWalk.i64_in _ (by omega)]; omega
    have e2 : IntKind.i64.wrap ((n : Int) - 1) = (m : Int) := by rw [IntWalk.i64_in _ (by omega)]; omega
    have hnz : 0 < n := by omega
    have hml : m < ys.length := (List.getElem?_eq_some_iff.1 hgc.out).1
    have hb13 : (c == 13) = true := by simp [h13]
    clear hn hnm h13
    gi_wp2_with (first
      | (gi_at_builtin; refine wpListIn_append_sl rfl _ _ 25 rfl base 5 i0 (.int .u8 0) 1 Try.underlying25 hi hz0 hz1 hz2 rfl hv _ _ rfl HO0.out B bv _ rfl HS0.out.sl (ints_one _ _) (by unfold maxLen; omega) (by omega) (by simp; omega) ?_; intro all w1 hown1 hgrow1; obtain ⟨la, lcap, rfl, hlc, ho1, hD1, bd1, hf1⟩ := HFA.out _ _ hown1 hgrow1; clear hown1 hgrow1; obtain ⟨g, rfl, hcg⟩ := owns_at ho1 (by omega))
      | (refine ⟨trivial, ?_⟩; gi_at_call 42; refine (callsIn_wide.2 (tail_any _ _ ys _ (slI_of_owns ho1 (Nat.le_refl _)) hb2 hl2)).mono ?_; rintro e w5 ⟨rfl, hd5⟩; have ho5 := ownsRow_drew ho1 hd5; have hD5 := hD1.of (hd5.step.block D hD1.lt); have bd5 := boxed_below bd1 hd5.step bd1.lt; have hf5 := hf1.next hd5.step; have hcm : w5.cell? ⟨g, m, none⟩ = some (.int .u8 c) := (hd5.cell ⟨g, m, none⟩).trans (hcg m _ (by simp [hgc.out])); clear ho1 hD1 bd1 hf1 hd5)
      | (refine ⟨trivial, ?_⟩; gi_at_call 45; obtain ⟨W4, hW4, hsz4, hb4, bo4, bl4, br4, bf4, hs4⟩ := HFB.out w5 (some ⟨g, 0, none⟩) lcap hlc ho5 hD5 bd5 (.func (.func 43) #[] #[.pointer (some ⟨w5.heap.size + 1, 0, none⟩), .pointer (some ⟨w5.heap.size + 1 + 1, 0, none⟩), .pointer (some ⟨w5.heap.size, 0, none⟩), .pointer (some ⟨w.heap.size, 0, none⟩)]); rw [hW4]; refine (callsIn_wide.2 (all_any w5.heap.size (.slice (some ⟨g, 0, none⟩) m lcap) (ys.take m) W4 hs4 (by omega) htk)).mono ?_; rintro e w2 ⟨rfl, hbox, hsz2, hbel⟩))
    all_goals
      obtain ⟨u, hcu, hu, hlow⟩ := hbox
      rw [hsz4] at hcu hlow hsz2
      have bo2 := boxed_below bo4 hbel (by omega)
      have bl2 := boxed_below bl4 hbel (by omega)
      have br2 := boxed_below br4 hbel (by omega)
      have bf2 := boxed_below bf4 hbel (by omega)
      have bd2 := boxed_below (boxed_below bd5 hb4 bd5.lt) hbel (by have := bd5.lt; omega)
      have hD2 := (hD5.below hb4 hD5.lt).below hbel (by have := hD5.lt; omega)
      have ho2 := ownsRow_below (ownsRow_below ho5 hb4 (Nat.le_refl _)) hbel (Nat.le_refl _)
      have hf2 := (hf5.next hb4).next hbel
      have hww := hf5.size
      have hbw := bd5.lt
      have hka : ∀ k, (Value.slice (some ⟨g, 0, none⟩) ys.length lcap).ownBlock = some k → base ≤ k ∧ k < w5.heap.size := ho5.lt
      clear hW4 bo4 bl4 br4 bf4 bd5 hD5 ho5 hf5 hs4 hb4 hbel
    refine wpIn_rangeFunc_ownG rfl (by omega) (gf := 51) (lb := #[.pointer (some ⟨w5.heap.size + 4, 0, none⟩)]) rfl trivial (enters_of Try.func51 (by kernel_rfl) rfl)
      (all_stops (3 - 1) (by omega) (w5.heap.size + 4) (w5.heap.size + 4) w2.heap.size u (ys.take m) hbt htk w2 (Nat.le_refl _) hsz2 (fun b hb => by have := hlow b hb; omega) (Nat.le_refl _) hcu hu) keepsK_t (keepsK_b (Nat.le_refl _)) (Below.refl _ _) (fun _ => rfl)
      (fun pre W => CI D ty X hv w5.heap.size w2 (stS p pre) W)
      (fun _ _ _ => False) ?hI3 (fun _ _ _ _ _ hs _ _ => hs) ?h03 ?a13 ?assign3 ?body3 ?done3 ?stop3
    case assign3 =>
      intro l x W K hK
      have HK := Lib.hid hK
      clear hK
      simp only [encPr]
      gi_wp2
      exact HK.out
    case hI3 => exact fun s A B row hs hg hr => hs.grown hg hr
    case h03 => exact ⟨_, bl2, br2, bo2, hD2, World.ownsRow_nil _ _ _ _, Frm.refl _ _⟩
    case stop3 =>
      rintro D' c pre W _ _ h _
      exact h.elim
    case body3 =>
      rintro l pre x W hCI hlt'
      have hol := stS_out_length p _ pre rfl
      have hpl := prs_length (ys.take m)
      have hsn := stS_snoc p pre x
      generalize stS p pre = s at hCI hol hsn
      obtain ⟨hbd, hbf, hbl, hbr⟩ := hCI.bits hlt hbw hsz2 bd2 bf2
      have cl := hbl.cell
      have cr := hbr.cell
      have cf := hbf.cell
      have fr := hbr.frozen
      by_cases hm : 0 ≤ s.last ∧ s.r = 13 ∧ x.2 = 10
      · obtain ⟨m1, m2, m3⟩ := hm
        have hst : stS p (pre ++ [x]) = ⟨s.last, 10, s.out, s.here⟩ := by rw [hsn]; unfold stepS; rw [if_pos ⟨m1, m2, m3⟩]
        have HST := Lib.hid hst
        have b2 : (s.r == 13) = true := by simp [m2]
        have b3 : (x.2 == 10) = true := by simp [m3]
        have HC := Lib.hid (hCI.store1 hlt hbw hsz2 10)
        clear m2 m3 hst hCI hsn
        gi_wp2
        exact ⟨(KeepsOthers.setCell _ _ _).from _, Keeps.setCell _ _ _ _ _ (.inl (by show w5.heap.size + 1 + 1 < w5.heap.size + 4; omega)), by show CI _ _ _ _ _ _ (stS p (pre ++ [x])) _; rw [HST.out]; exact HC.out⟩
      · have hst : stS p (pre ++ [x]) = ⟨x.1, x.2, (flushS s x.1).out, (flushS s x.1).here⟩ := by rw [hsn]; unfold stepS; rw [if_neg hm]
        have HST := Lib.hid hst
        have hfl := flush_any D w.heap.size w5.heap.size ty X hv w2 s x.1 W hCI hbd hlt hbw hsz2 (by omega)
        have hdep : 1 ≤ 3 - 1 - 1 := by omega
        have HFL := Lib.hid hfl
        clear hfl hst hCI hsn
        have hcs : s.last < 0 ∨ (0 ≤ s.last ∧ (s.r == 13) = false) ∨ (0 ≤ s.last ∧ (s.r == 13) = true ∧ (x.2 == 10) = false) := by
          by_cases q1 : s.last < 0
          · exact .inl q1
          · by_cases q2 : s.r = 13
            · exact .inr (.inr ⟨by omega, by simp [q2], by simp; intro q3; exact hm ⟨by omega, q2, q3⟩⟩)
            · exact .inr (.inl ⟨by omega, by simp [q2]⟩)
        clear hm
        rcases hcs with q1 | ⟨q1, q2⟩ | ⟨q1, q2, q3⟩
        all_goals
          gi_wp2_with (refine ⟨trivial, ?_⟩; gi_at_call 43; refine (CallsIn.inRound l (callsIn_wide.2 HFL.out)).mono ?_; rintro e W2 ⟨⟨v, rfl⟩, hCI2, ko2, kk2⟩; have hq := hCI2.bits hlt hbw hsz2 bd2 bf2; obtain ⟨hbd2, hbf2, hbl2, hbr2⟩ := hq; have cl2 := hbl2.cell; have cr2 := hbr2.cell; have fl2 := hbl2.frozen; have fr2 := hbr2.frozen)
          exact ⟨(ko2.trans ((KeepsOthers.setCell _ _ _).trans (KeepsOthers.setCell _ _ _))).from _, kk2.trans ((Keeps.setCell _ _ _ _ _ (.inl (by show w5.heap.size + 1 < w5.heap.size + 4; omega))).trans (Keeps.setCell _ _ _ _ _ (.inl (by show w5.heap.size + 1 + 1 < w5.heap.size + 4; omega)))), by show CI _ _ _ _ _ _ (stS p (pre ++ [x])) _; rw [HST.out]; exact hCI2.store hlt hbw hsz2 _ _⟩
    case done3 =>
      rintro D' ps W hD' rfl hCI hK
      have hol := stS_out_length p _ (prs (ys.take m)) rfl
      have hpl := prs_length (ys.take m)
      have hfa := fold_all (ys.take m) htk p (by obtain ⟨a1, a2, a3, a4, a5, a6⟩ := hp; exact ⟨a1, a2, a3, by omega, by omega, by omega⟩)
      rw [HTK.out] at hfa
      generalize stS p (prs (ys.take m)) = s at hCI hol hfa
      obtain ⟨hbd, hbf, hbl, hbr⟩ := hCI.bits hlt hbw hsz2 bd2 bf2
      have cf := hbf.cell
      have hfl := flush_any D w.heap.size w5.heap.size ty X hv w2 s m W hCI hbd hlt hbw hsz2 (by omega)
      have HFL := Lib.hid hfl
      have HK := Lib.hid hK
      have HFO := Lib.hid hfa
      clear hfl hCI hK hfa
      gi_wp2_with (refine ⟨trivial, ?_⟩; gi_at_call 43; refine (callsIn_wide.2 HFL.out).mono ?_; rintro e W2 ⟨⟨v, rfl⟩, hCI2, ko2, kk2⟩)
      obtain ⟨hbd2, hbf2, _, _⟩ := hCI2.bits hlt hbw hsz2 bd2 bf2
      obtain ⟨ov, _, _, hov, hD3, hown3, hf3⟩ := hCI2
      obtain ⟨hfo1, hfo2⟩ := HFO.out
      rw [hfo1] at hown3
      rw [hfo2] at hD3
      have hcl : (cl (gr (wd (ys.take m))) p).length = (gr (wd (ys.take m))).length := cl_length _ _
      rw [hcl] at hown3
      obtain ⟨PL, hPL⟩ : ∃ PL, pl (gr (wd (ys.take m))) p = PL := ⟨_, rfl⟩
      rw [hPL] at hD3
      have HPL := Lib.hid hPL
      clear hPL
      obtain ⟨EN, hEN⟩ : ∃ EN, encKs (cl (gr (wd (ys.take m))) p) = EN := ⟨_, rfl⟩
      rw [hEN] at hown3
      have HEN := Lib.hid hEN
      clear hEN
      obtain ⟨NN, hNN⟩ : ∃ NN, (gr (wd (ys.take m))).length = NN := ⟨_, rfl⟩
      rw [hNN] at hown3
      have HNN := Lib.hid hNN
      clear hNN
      have hK2 := ko2.2 _ _ HK.out rfl
      have hsz3 := hf3.size
      have ho3 : SlI .u8 w2.heap.size W2 (.slice (some ⟨g, 0, none⟩) ys.length lcap) ys := (slI_of_owns ho2 (Nat.le_refl _)).frm hf3 (Nat.le_refl _) (fun k hk => by
        have := hka k hk
        omega)
      have hsub := slI_sub ho3 (lo := m) (hi := ys.length) hsl (Nat.le_refl _)
      rw [List.take_length] at hsub
      have hrf := fun w0 => run_sub_from (P := Try.prog) 25 5 Try.underlying25 i0 hi hce (some ⟨g, 0, none⟩) ys.length lcap m hsl w0
      have hdl : (ys.drop m).length ≤ 1099511627776 := by rw [List.length_drop]; omega
      obtain ⟨zs, hzs⟩ : ∃ zs, ys.drop m = zs := ⟨_, rfl⟩
      rw [hzs] at hsub hdl
      have HZS := Lib.hid hzs
      clear hzs
      generalize subV (some ⟨g, 0, none⟩) lcap m ys.length = sv at hsub hrf
      have haf : ∀ W3 : World, W2.drew.grownBy W3 none → Below W2.heap.size W2 W3 := fun W3 hg => ((Below.refl W2.heap.size W2).drew).grown hg (Nat.le_refl _) (fun k e => by cases e)
      have HAF := Lib.hid haf
      have hD'2 : D' < W2.heap.size := (Array.getElem?_eq_some_iff.1 hK2).1
      have hfin : ∀ (W3 : World) (ha : Option Addr) (hcap : Nat), Below W2.heap.size W2 W3 → W3.ownsRow w.heap.size 5 1 (.slice ha zs.length hcap) zs.length (zs.map (Value.int .u8)) →
          (W3.setCell ⟨D, 3, none⟩ (.slice ha zs.length hcap)).cell? ⟨w5.heap.size, 0, none⟩ = some ov ∧ (W3.setCell ⟨D, 3, none⟩ (.slice ha zs.length hcap)).heap[D']? = some (.deferred (some [])) ∧
          (RdAt ((W3.setCell ⟨D, 3, none⟩ (.slice ha zs.length hcap)).putObj D' (.deferred none)) D ty X PL (.slice ha zs.length hcap) ∧
            ((W3.setCell ⟨D, 3, none⟩ (.slice ha zs.length hcap)).putObj D' (.deferred none)).ownsRow w.heap.size 5 1 (.slice ha zs.length hcap) zs.length (zs.map (Value.int .u8)) ∧
            ((W3.setCell ⟨D, 3, none⟩ (.slice ha zs.length hcap)).putObj D' (.deferred none)).ownsRow w.heap.size 36 4 ov NN EN ∧ Frm (fun i => i = D ∨ hv.ownBlock = some i) w ((W3.setCell ⟨D, 3, none⟩ (.slice ha zs.length hcap)).putObj D' (.deferred none))) := by
        intro W3 ha hcap hb3 ho5
        have hsz5 := hb3.size
        have hfs : Frm (fun i => i = D) W3 (W3.setCell ⟨D, 3, none⟩ (.slice ha zs.length hcap)) := Frm.setCell _ _ _ rfl
        have hfp : Frm (fun i => i = D') (W3.setCell ⟨D, 3, none⟩ (.slice ha zs.length hcap)) ((W3.setCell ⟨D, 3, none⟩ (.slice ha zs.length hcap)).putObj D' (.deferred none)) := Frm.of_grown (grownBy_putObj' _ _ _) (fun k hk => by cases hk; rfl)
        have hov3 := boxed_below hov hb3 hov.lt
        have hK3 : W3.heap[D']? = some (.deferred (some [])) := (hb3.block D' hD'2).trans hK2
        have hK4 : (W3.setCell ⟨D, 3, none⟩ (.slice ha zs.length hcap)).heap[D']? = some (.deferred (some [])) := (hfs.block D' (by omega) (by omega)).trans hK3
        have hD3' := (hD3.of (hb3.block D hD3.lt)).set3 (.slice ha zs.length hcap)
        have hown5 := ownsRow_below hown3 hb3 (Nat.le_refl _)
        have hown6 := ownsRow_frm hown5 hfs (fun k hk e => by subst e; have := (hown5.lt _ hk).1; omega)
        have ho6 := ownsRow_frm ho5 hfs (fun k hk e => by subst e; have := (ho5.lt _ hk).1; omega)
        refine ⟨Boxed.cell (t := 28) ((hfs.block _ hov3.lt (by omega)).trans hov3), hK4, hD3'.of (hfp.block D hD3'.lt (by omega)), ownsRow_putObj ho6 _ hK4 rfl, ownsRow_base (ownsRow_putObj hown6 _ hK4 rfl) (by omega), ?_⟩
        refine (((hf2.trans hf3 ?_).next hb3).trans hfs ?_).trans hfp ?_
        · rintro i hi (h | h | h | h)
          · exact .inl h
          · omega
          · omega
          · omega
        · intro i hi h
          exact .inl h
        · intro i hi h
          omega
      have HFIN := Lib.hid hfin
      clear hfin
      have cd2 := hbd2.cell
      have hbl1 := hbd2.lt
      have co2 := hov.cell
      obtain ⟨e0, e1, e2, e3, k0, k1, k2, k3⟩ := hD3.cells
      have s1 : 0 + (zs.map (Value.int .u8)).length ≤ maxLen := by simp [maxLen]; omega
      have s2 : (0 + (zs.map (Value.int .u8)).length) * 1 ≤ 140737488355328 := by simp; omega
      have s3 : w.heap.size ≤ W2.drew.heap.size := by show w.heap.size ≤ W2.heap.size; omega
      have hfm : Try.prog.follows .mixedOrders = true := by kernel_rfl
      have hsubd : Sl w2.heap.size W2.drew sv (zs.map (Value.int .u8)) := hsub.sl
      refine wpIn_wide.2 ?_
      refine wp_region_noPanic ?_
      go_region_law (refine step_append_sl rfl _ _ 25 rfl w.heap.size 5 i0 (.int .u8 0) 1 Try.underlying25 hi hz0 hz1 hz2 rfl (.slice none 0 0) 0 [] (by go_simp) (World.ownsRow_nil _ _ _ _) w2.heap.size sv _ (by go_simp) hsubd (ints_one _ _) s1 s2 s3 ?_; intro hv' W3 hown4 hgrow4; obtain ⟨ha, hcap, rfl, hhc, _, _⟩ := owns_shape hown4; have hb3 := HAF.out _ hgrow4; have hD4 := hD3.of (hb3.block D hD3.lt); have q := hD4.cells; obtain ⟨g0, g1, g2, g3, m0, m1, m2, m3⟩ := q; have hbd4 := boxed_below hbd2 hb3 hbl1; have cd4 := hbd4.cell)
      all_goals
        refine NoPanic.normal ?_
        obtain ⟨f1, f2, f3⟩ := HFIN.out W3 ha hcap hb3 (by simpa using hown4)
        have hzl : 0 + (zs.map (Value.int .u8)).length = zs.length := by simp
        try rw [hzl]
        generalize W3.setCell ⟨D, 3, none⟩ (.slice ha zs.length hcap) = W4 at *
        clear hown4 hgrow4 hhc hb3 hD4 g0 g1 g2 g3 m0 m1 m2 m3 hbd4 cd4
        have HF3 := Lib.hid f3
        clear f3
        go_simp
        gi_wp2
        have q1 := HPL.out
        have q2 := HEN.out
        have q3 := HNN.out
        have q4 := HZS.out
        subst q1 q2 q3 q4
        exact leaves_mark1 f2 ⟨ov, by simp [results, Try.results34, go_sem], ov, _, rfl, HF3.out⟩
  · have e1 : IntKind.i64.wrap ((ys.length : Int) - (tailOf ys : Int)) = (n : Int) := by rw [IntWalk.i64_in _ (by omega)]; omega
    have e2 : IntKind.i64.wrap ((n : Int) - 1) = (m : Int) := by rw [IntWalk.i64_in _ (by omega)]; omega
    have hnz : 0 < n := by omega
    have hml : m < ys.length := (List.getElem?_eq_some_iff.1 hgc.out).1
    have hb13 : (c == 13) = false := by simp [h13]
    clear hn hnm h13
    gi_wp2_with (first
      | (gi_at_builtin; refine wpListIn_append_sl rfl _ _ 25 rfl base 5 i0 (.int .u8 0) 1 Try.underlying25 hi hz0 hz1 hz2 rfl hv _ _ rfl HO0.out B bv _ rfl HS0.out.sl (ints_one _ _) (by unfold maxLen; omega) (by omega) (by simp; omega) ?_; intro all w1 hown1 hgrow1; obtain ⟨la, lcap, rfl, hlc, ho1, hD1, bd1, hf1⟩ := HFA.out _ _ hown1 hgrow1; clear hown1 hgrow1; obtain ⟨g, rfl, hcg⟩ := owns_at ho1 (by omega))
      | (refine ⟨trivial, ?_⟩; gi_at_call 42; refine (callsIn_wide.2 (tail_any _ _ ys _ (slI_of_owns ho1 (Nat.le_refl _)) hb2 hl2)).mono ?_; rintro e w5 ⟨rfl, hd5⟩; have ho5 := ownsRow_drew ho1 hd5; have hD5 := hD1.of (hd5.step.block D hD1.lt); have bd5 := boxed_below bd1 hd5.step bd1.lt; have hf5 := hf1.next hd5.step; have hcm : w5.cell? ⟨g, m, none⟩ = some (.int .u8 c) := (hd5.cell ⟨g, m, none⟩).trans (hcg m _ (by simp [hgc.out])); clear ho1 hD1 bd1 hf1 hd5)
      | (refine ⟨trivial, ?_⟩; gi_at_call 45; obtain ⟨W4, hW4, hsz4, hb4, bo4, bl4, br4, bf4, hs4⟩ := HFB.out w5 (some ⟨g, 0, none⟩) lcap hlc ho5 hD5 bd5 (.func (.func 43) #[] #[.pointer (some ⟨w5.heap.size + 1, 0, none⟩), .pointer (some ⟨w5.heap.size + 1 + 1, 0, none⟩), .pointer (some ⟨w5.heap.size, 0, none⟩), .pointer (some ⟨w.heap.size, 0, none⟩)]); rw [hW4]; refine (callsIn_wide.2 (all_any w5.heap.size (.slice (some ⟨g, 0, none⟩) n lcap) (ys.take n) W4 hs4 (by omega) htk)).mono ?_; rintro e w2 ⟨rfl, hbox, hsz2, hbel⟩))
    all_goals
      obtain ⟨u, hcu, hu, hlow⟩ := hbox
      rw [hsz4] at hcu hlow hsz2
      have bo2 := boxed_below bo4 hbel (by omega)
      have bl2 := boxed_below bl4 hbel (by omega)
      have br2 := boxed_below br4 hbel (by omega)
      have bf2 := boxed_below bf4 hbel (by omega)
      have bd2 := boxed_below (boxed_below bd5 hb4 bd5.lt) hbel (by have := bd5.lt; omega)
      have hD2 := (hD5.below hb4 hD5.lt).below hbel (by have := hD5.lt; omega)
      have ho2 := ownsRow_below (ownsRow_below ho5 hb4 (Nat.le_refl _)) hbel (Nat.le_refl _)
      have hf2 := (hf5.next hb4).next hbel
      have hww := hf5.size
      have hbw := bd5.lt
      have hka : ∀ k, (Value.slice (some ⟨g, 0, none⟩) ys.length lcap).ownBlock = some k → base ≤ k ∧ k < w5.heap.size := ho5.lt
      clear hW4 bo4 bl4 br4 bf4 bd5 hD5 ho5 hf5 hs4 hb4 hbel
    refine wpIn_rangeFunc_ownG rfl (by omega) (gf := 51) (lb := #[.pointer (some ⟨w5.heap.size + 4, 0, none⟩)]) rfl trivial (enters_of Try.func51 (by kernel_rfl) rfl)
      (all_stops (3 - 1) (by omega) (w5.heap.size + 4) (w5.heap.size + 4) w2.heap.size u (ys.take n) hbt htk w2 (Nat.le_refl _) hsz2 (fun b hb => by have := hlow b hb; omega) (Nat.le_refl _) hcu hu) keepsK_t (keepsK_b (Nat.le_refl _)) (Below.refl _ _) (fun _ => rfl)
      (fun pre W => CI D ty X hv w5.heap.size w2 (stS p pre) W)
      (fun _ _ _ => False) ?hI4 (fun _ _ _ _ _ hs _ _ => hs) ?h04 ?a14 ?assign4 ?body4 ?done4 ?stop4
    case assign4 =>
      intro l x W K hK
      have HK := Lib.hid hK
      clear hK
      simp only [encPr]
      gi_wp2
      exact HK.out
    case hI4 => exact fun s A B row hs hg hr => hs.grown hg hr
    case h04 => exact ⟨_, bl2, br2, bo2, hD2, World.ownsRow_nil _ _ _ _, Frm.refl _ _⟩
    case stop4 =>
      rintro D' c pre W _ _ h _
      exact h.elim
    case body4 =>
      rintro l pre x W hCI hlt'
      have hol := stS_out_length p _ pre rfl
      have hpl := prs_length (ys.take n)
      have hsn := stS_snoc p pre x
      generalize stS p pre = s at hCI hol hsn
      obtain ⟨hbd, hbf, hbl, hbr⟩ := hCI.bits hlt hbw hsz2 bd2 bf2
      have cl := hbl.cell
      have cr := hbr.cell
      have cf := hbf.cell
      have fr := hbr.frozen
      by_cases hm : 0 ≤ s.last ∧ s.r = 13 ∧ x.2 = 10
      · obtain ⟨m1, m2, m3⟩ := hm
        have hst : stS p (pre ++ [x]) = ⟨s.last, 10, s.out, s.here⟩ := by rw [hsn]; unfold stepS; rw [if_pos ⟨m1, m2, m3⟩]
        have HST := Lib.hid hst
        have b2 : (s.r == 13) = true := by simp [m2]
        have b3 : (x.2 == 10) = true := by simp [m3]
        have HC := Lib.hid (hCI.store1 hlt hbw hsz2 10)
        clear m2 m3 hst hCI hsn
        gi_wp2
        exact ⟨(KeepsOthers.setCell _ _ _).from _, Keeps.setCell _ _ _ _ _ (.inl (by show w5.heap.size + 1 + 1 < w5.heap.size + 4; omega)), by show CI _ _ _ _ _ _ (stS p (pre ++ [x])) _; rw [HST.out]; exact HC.out⟩
      · have hst : stS p (pre ++ [x]) = ⟨x.1, x.2, (flushS s x.1).out, (flushS s x.1).here⟩ := by rw [hsn]; unfold stepS; rw [if_neg hm]
        have HST := Lib.hid hst
        have hfl := flush_any D w.heap.size w5.heap.size ty X hv w2 s x.1 W hCI hbd hlt hbw hsz2 (by omega)
        have hdep : 1 ≤ 3 - 1 - 1 := by omega
        have HFL := Lib.hid hfl
        clear hfl hst hCI hsn
        have hcs : s.last < 0 ∨ (0 ≤ s.last ∧ (s.r == 13) = false) ∨ (0 ≤ s.last ∧ (s.r == 13) = true ∧ (x.2 == 10) = false) := by
          by_cases q1 : s.last < 0
          · exact .inl q1
          · by_cases q2 : s.r = 13
            · exact .inr (.inr ⟨by omega, by simp [q2], by simp; intro q3; exact hm ⟨by omega, q2, q3⟩⟩)
            · exact .inr (.inl ⟨by omega, by simp [q2]⟩)
        clear hm
        rcases hcs with q1 | ⟨q1, q2⟩ | ⟨q1, q2, q3⟩
        all_goals
          gi_wp2_with (refine ⟨trivial, ?_⟩; gi_at_call 43; refine (CallsIn.inRound l (callsIn_wide.2 HFL.out)).mono ?_; rintro e W2 ⟨⟨v, rfl⟩, hCI2, ko2, kk2⟩; have hq := hCI2.bits hlt hbw hsz2 bd2 bf2; obtain ⟨hbd2, hbf2, hbl2, hbr2⟩ := hq; have cl2 := hbl2.cell; have cr2 := hbr2.cell; have fl2 := hbl2.frozen; have fr2 := hbr2.frozen)
          exact ⟨(ko2.trans ((KeepsOthers.setCell _ _ _).trans (KeepsOthers.setCell _ _ _))).from _, kk2.trans ((Keeps.setCell _ _ _ _ _ (.inl (by show w5.heap.size + 1 < w5.heap.size + 4; omega))).trans (Keeps.setCell _ _ _ _ _ (.inl (by show w5.heap.size + 1 + 1 < w5.heap.size + 4; omega)))), by show CI _ _ _ _ _ _ (stS p (pre ++ [x])) _; rw [HST.out]; exact hCI2.store hlt hbw hsz2 _ _⟩
    case done4 =>
      rintro D' ps W hD' rfl hCI hK
      have hol := stS_out_length p _ (prs (ys.take n)) rfl
      have hpl := prs_length (ys.take n)
      have hfa := fold_all (ys.take n) htk p (by obtain ⟨a1, a2, a3, a4, a5, a6⟩ := hp; exact ⟨a1, a2, a3, by omega, by omega, by omega⟩)
      rw [HTK.out] at hfa
      generalize stS p (prs (ys.take n)) = s at hCI hol hfa
      obtain ⟨hbd, hbf, hbl, hbr⟩ := hCI.bits hlt hbw hsz2 bd2 bf2
      have cf := hbf.cell
      have hfl := flush_any D w.heap.size w5.heap.size ty X hv w2 s n W hCI hbd hlt hbw hsz2 (by omega)
      have HFL := Lib.hid hfl
      have HK := Lib.hid hK
      have HFO := Lib.hid hfa
      clear hfl hCI hK hfa
      gi_wp2_with (refine ⟨trivial, ?_⟩; gi_at_call 43; refine (callsIn_wide.2 HFL.out).mono ?_; rintro e W2 ⟨⟨v, rfl⟩, hCI2, ko2, kk2⟩)
      obtain ⟨hbd2, hbf2, _, _⟩ := hCI2.bits hlt hbw hsz2 bd2 bf2
      obtain ⟨ov, _, _, hov, hD3, hown3, hf3⟩ := hCI2
      obtain ⟨hfo1, hfo2⟩ := HFO.out
      rw [hfo1] at hown3
      rw [hfo2] at hD3
      have hcl : (cl (gr (wd (ys.take n))) p).length = (gr (wd (ys.take n))).length := cl_length _ _
      rw [hcl] at hown3
      obtain ⟨PL, hPL⟩ : ∃ PL, pl (gr (wd (ys.take n))) p = PL := ⟨_, rfl⟩
      rw [hPL] at hD3
      have HPL := Lib.hid hPL
      clear hPL
      obtain ⟨EN, hEN⟩ : ∃ EN, encKs (cl (gr (wd (ys.take n))) p) = EN := ⟨_, rfl⟩
      rw [hEN] at hown3
      have HEN := Lib.hid hEN
      clear hEN
      obtain ⟨NN, hNN⟩ : ∃ NN, (gr (wd (ys.take n))).length = NN := ⟨_, rfl⟩
      rw [hNN] at hown3
      have HNN := Lib.hid hNN
      clear hNN
      have hK2 := ko2.2 _ _ HK.out rfl
      have hsz3 := hf3.size
      have ho3 : SlI .u8 w2.heap.size W2 (.slice (some ⟨g, 0, none⟩) ys.length lcap) ys := (slI_of_owns ho2 (Nat.le_refl _)).frm hf3 (Nat.le_refl _) (fun k hk => by
        have := hka k hk
        omega)
      have hsub := slI_sub ho3 (lo := n) (hi := ys.length) hsl (Nat.le_refl _)
      rw [List.take_length] at hsub
      have hrf := fun w0 => run_sub_from (P := Try.prog) 25 5 Try.underlying25 i0 hi hce (some ⟨g, 0, none⟩) ys.length lcap n hsl w0
      have hdl : (ys.drop n).length ≤ 1099511627776 := by rw [List.length_drop]; omega
      obtain ⟨zs, hzs⟩ : ∃ zs, ys.drop n = zs := ⟨_, rfl⟩
      rw [hzs] at hsub hdl
      have HZS := Lib.hid hzs
      clear hzs
      generalize subV (some ⟨g, 0, none⟩) lcap n ys.length = sv at hsub hrf
      have haf : ∀ W3 : World, W2.drew.grownBy W3 none → Below W2.heap.size W2 W3 := fun W3 hg => ((Below.refl W2.heap.size W2).drew).grown hg (Nat.le_refl _) (fun k e => by cases e)
      have HAF := Lib.hid haf
      have hD'2 : D' < W2.heap.size := (Array.getElem?_eq_some_iff.1 hK2).1
      have hfin : ∀ (W3 : World) (ha : Option Addr) (hcap : Nat), Below W2.heap.size W2 W3 → W3.ownsRow w.heap.size 5 1 (.slice ha zs.length hcap) zs.length (zs.map (Value.int .u8)) →
          (W3.setCell ⟨D, 3, none⟩ (.slice ha zs.length hcap)).cell? ⟨w5.heap.size, 0, none⟩ = some ov ∧ (W3.setCell ⟨D, 3, none⟩ (.slice ha zs.length hcap)).heap[D']? = some (.deferred (some [])) ∧
          (RdAt ((W3.setCell ⟨D, 3, none⟩ (.slice ha zs.length hcap)).putObj D' (.deferred none)) D ty X PL (.slice ha zs.length hcap) ∧
            ((W3.setCell ⟨D, 3, none⟩ (.slice ha zs.length hcap)).putObj D' (.deferred none)).ownsRow w.heap.size 5 1 (.slice ha zs.length hcap) zs.length (zs.map (Value.int .u8)) ∧
            ((W3.setCell ⟨D, 3, none⟩ (.slice ha zs.length hcap)).putObj D' (.deferred none)).ownsRow w.heap.size 36 4 ov NN EN ∧ Frm (fun i => i = D ∨ hv.ownBlock = some i) w ((W3.setCell ⟨D, 3, none⟩ (.slice ha zs.length hcap)).putObj D' (.deferred none))) := by
        intro W3 ha hcap hb3 ho5
        have hsz5 := hb3.size
        have hfs : Frm (fun i => i = D) W3 (W3.setCell ⟨D, 3, none⟩ (.slice ha zs.length hcap)) := Frm.setCell _ _ _ rfl
        have hfp : Frm (fun i => i = D') (W3.setCell ⟨D, 3, none⟩ (.slice ha zs.length hcap)) ((W3.setCell ⟨D, 3, none⟩ (.slice ha zs.length hcap)).putObj D' (.deferred none)) := Frm.of_grown (grownBy_putObj' _ _ _) (fun k hk => by cases hk; rfl)
        have hov3 := boxed_below hov hb3 hov.lt
        have hK3 : W3.heap[D']? = some (.deferred (some [])) := (hb3.block D' hD'2).trans hK2
        have hK4 : (W3.setCell ⟨D, 3, none⟩ (.slice ha zs.length hcap)).heap[D']? = some (.deferred (some [])) := (hfs.block D' (by omega) (by omega)).trans hK3
        have hD3' := (hD3.of (hb3.block D hD3.lt)).set3 (.slice ha zs.length hcap)
        have hown5 := ownsRow_below hown3 hb3 (Nat.le_refl _)
        have hown6 := ownsRow_frm hown5 hfs (fun k hk e => by subst e; have := (hown5.lt _ hk).1; omega)
        have ho6 := ownsRow_frm ho5 hfs (fun k hk e => by subst e; have := (ho5.lt _ hk).1; omega)
        refine ⟨Boxed.cell (t := 28) ((hfs.block _ hov3.lt (by omega)).trans hov3), hK4, hD3'.of (hfp.block D hD3'.lt (by omega)), ownsRow_putObj ho6 _ hK4 rfl, ownsRow_base (ownsRow_putObj hown6 _ hK4 rfl) (by omega), ?_⟩
        refine (((hf2.trans hf3 ?_).next hb3).trans hfs ?_).trans hfp ?_
        · rintro i hi (h | h | h | h)
          · exact .inl h
          · omega
          · omega
          · omega
        · intro i hi h
          exact .inl h
        · intro i hi h
          omega
      have HFIN := Lib.hid hfin
      clear hfin
      have cd2 := hbd2.cell
      have hbl1 := hbd2.lt
      have co2 := hov.cell
      obtain ⟨e0, e1, e2, e3, k0, k1, k2, k3⟩ := hD3.cells
      have s1 : 0 + (zs.map (Value.int .u8)).length ≤ maxLen := by simp [maxLen]; omega
      have s2 : (0 + (zs.map (Value.int .u8)).length) * 1 ≤ 140737488355328 := by simp; omega
      have s3 : w.heap.size ≤ W2.drew.heap.size := by show w.heap.size ≤ W2.heap.size; omega
      have hfm : Try.prog.follows .mixedOrders = true := by kernel_rfl
      have hsubd : Sl w2.heap.size W2.drew sv (zs.map (Value.int .u8)) := hsub.sl
      refine wpIn_wide.2 ?_
      refine wp_region_noPanic ?_
      go_region_law (refine step_append_sl rfl _ _ 25 rfl w.heap.size 5 i0 (.int .u8 0) 1 Try.underlying25 hi hz0 hz1 hz2 rfl (.slice none 0 0) 0 [] (by go_simp) (World.ownsRow_nil _ _ _ _) w2.heap.size sv _ (by go_simp) hsubd (ints_one _ _) s1 s2 s3 ?_; intro hv' W3 hown4 hgrow4; obtain ⟨ha, hcap, rfl, hhc, _, _⟩ := owns_shape hown4; have hb3 := HAF.out _ hgrow4; have hD4 := hD3.of (hb3.block D hD3.lt); have q := hD4.cells; obtain ⟨g0, g1, g2, g3, m0, m1, m2, m3⟩ := q; have hbd4 := boxed_below hbd2 hb3 hbl1; have cd4 := hbd4.cell)
      all_goals
        refine NoPanic.normal ?_
        obtain ⟨f1, f2, f3⟩ := HFIN.out W3 ha hcap hb3 (by simpa using hown4)
        have hzl : 0 + (zs.map (Value.int .u8)).length = zs.length := by simp
        try rw [hzl]
        generalize W3.setCell ⟨D, 3, none⟩ (.slice ha zs.length hcap) = W4 at *
        clear hown4 hgrow4 hhc hb3 hD4 g0 g1 g2 g3 m0 m1 m2 m3 hbd4 cd4
        have HF3 := Lib.hid f3
        clear f3
        go_simp
        gi_wp2
        have q1 := HPL.out
        have q2 := HEN.out
        have q3 := HNN.out
        have q4 := HZS.out
        subst q1 q2 q3 q4
        exact leaves_mark1 f2 ⟨ov, by simp [results, Try.results34, go_sem], ov, _, rfl, HF3.out⟩

end Go.Proofs.Ytbdkiiaiadbmbaa
