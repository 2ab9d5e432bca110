/- markup.Whole. -/
import Derived.Test.YtoccmpaonicnnaaScanE
import Derived.Test.YtoccmpaonicnnaaJoin
import Derived.Test.YtoccmpaonicnnaaCutP
import Derived.Test.YtoccmpaonicnnaaOrd
import Derived.ControlIn
import Derived.Sort.CutIn
import Derived.Deep.RegionHeld3
namespace Go.Proofs.Ytoccmpaonicnnaa
open Go.RowKit Go.Shelf
set_option linter.unusedVariables false
set_option linter.unusedSimpArgs false
attribute [local go_sem] Oper.semAt_some

theorem whole_bad (k : Int) (s : ByteArray) (w : World) (h : k < 0 ∨ 2 < k) :
    Calls Try.prog 11 #[.int .i64 k, .string s] w fun e w' => e = .returned (.tuple #[.string ByteArray.empty, .int .i64 0, .bool false, .int .i64 1]) ∧ Below w.heap.size w w' := by
  go_enter Try.func11, Try.ntmps11
  go_wp2_with (go_at_call 13; refine (new_bad k _ h).mono ?_; rintro e w' ⟨rfl, rfl⟩)
  refine bodyPost_ret (v := .tuple #[.string ByteArray.empty, .int .i64 0, .bool false, .int .i64 1]) (by simp [results, Try.results11, go_sem]; first | done | rfl) rfl ⟨rfl, (Below.refl _ _).alloc (Nat.le_refl _) _⟩

/-- the first place where it is over, and all runes up to there -/
def scanGo (k : Int) : List (Nat × Int) → List Int → Option (Nat × List Int)
  | [], _ => none
  | x :: ps, pre => if overL k (pre ++ [fixR x.2]) = true then some (x.1, pre ++ [fixR x.2]) else scanGo k ps (pre ++ [fixR x.2])
def fixP (l : List (Nat × Int)) : List Int := l.map fun x => fixR x.2
theorem fixP_snoc (l : List (Nat × Int)) (x : Nat × Int) : fixP (l ++ [x]) = fixP l ++ [fixR x.2] := by simp [fixP]
theorem fixP_length (l : List (Nat × Int)) : (fixP l).length = l.length := by simp [fixP]
/-- not over behind any of its beginnings -/
def NotYet (k : Int) (pre : List (Nat × Int)) : Prop := ∀ q x, q ++ [x] <+: pre → overL k (fixP (q ++ [x])) = false
theorem NotYet.nil (k : Int) : NotYet k [] := fun q x h => by have := h.length_le; simp at this
theorem NotYet.snoc {k : Int} {pre : List (Nat × Int)} {x : Nat × Int} (h : NotYet k pre) (hx : overL k (fixP (pre ++ [x])) = false) : NotYet k (pre ++ [x]) := by
  intro q y hq
  by_cases hl : q.length = pre.length
  · have : q ++ [y] = pre ++ [x] := by
      obtain ⟨r, hr⟩ := hq
      have h2 := congrArg List.length hr
      simp at h2
      obtain rfl : r = [] := List.eq_nil_of_length_eq_zero (by omega)
      simpa using hr
    rw [this]; exact hx
  · refine h q y ?_
    obtain ⟨r, hr⟩ := hq
    have h2 := congrArg List.length hr
    simp at h2
    have hrl : 0 < r.length := by omega
    obtain ⟨r', z, rfl⟩ : ∃ r' z, r = r' ++ [z] := by
      rcases List.eq_nil_or_concat r with rfl | ⟨r', z, rfl⟩
      · simp at hrl
      · exact ⟨r', z, by simp⟩
    rw [← List.append_assoc] at hr
    have := List.append_inj_left' hr (by simp)
    exact ⟨r', this⟩
theorem scanGo_skip {k : Int} : ∀ {pre rest : List (Nat × Int)} {p : List Int}, (∀ q x, q ++ [x] <+: pre → overL k (p ++ fixP (q ++ [x])) = false) → scanGo k (pre ++ rest) p = scanGo k rest (p ++ fixP pre)
  | [], rest, p, h => by simp [fixP]
  | x :: pre, rest, p, h => by
    have h1 := h [] x ⟨pre, by simp⟩
    simp only [List.nil_append, fixP, List.map_cons, List.map_nil] at h1
    simp only [List.cons_append, scanGo, h1, Bool.false_eq_true, if_false]
    rw [scanGo_skip (p := p ++ [fixR x.2])]
    · simp [fixP]
    · intro q y hq
      have := h (x :: q) y (by obtain ⟨r, hr⟩ := hq; exact ⟨r, by simp [← hr]⟩)
      simpa [fixP] using this
theorem scanGo_none {k : Int} {ps : List (Nat × Int)} (h : NotYet k ps) : scanGo k ps [] = none := by
  have := scanGo_skip (k := k) (pre := ps) (rest := []) (p := []) (fun q x hq => by simpa using h q x hq)
  simpa [scanGo] using this
theorem scanGo_some {k : Int} {pre rest : List (Nat × Int)} {x : Nat × Int} (h : NotYet k pre) (hx : overL k (fixP (pre ++ [x])) = true) : scanGo k (pre ++ x :: rest) [] = some (x.1, fixP (pre ++ [x])) := by
  have := scanGo_skip (k := k) (pre := pre) (rest := x :: rest) (p := []) (fun q x hq => by simpa using h q x hq)
  rw [this]
  rw [fixP_snoc] at hx ⊢
  simp [scanGo, hx]

/-- what Whole says of bytes: its text, how many bytes, whether closed -/
def sayR (k : Int) (t : Nat) (l : List Int) : List Int := if k = 1 then [] else encs (l.take (l.length - t))
def wholeR (k : Int) (xs : List Int) : List Int × Nat × Bool :=
  match scanGo k (prs xs) [] with
  | some (p, l) => (sayR k (if k = 0 then endN l else 1) l, p + 1, true)
  | none => (sayR k (openN k (fixP (prs xs))) (fixP (prs xs)), xs.length, false)

theorem overL_pos {k : Int} {l : List Int} (h : overL k l = true) : 1 ≤ l.length := by
  unfold overL at h
  simp only [Bool.and_eq_true] at h
  have := endsL_len h.1
  simpa using this
theorem scanGo_over {k : Int} : ∀ {ps : List (Nat × Int)} {pre l : List Int} {p : Nat}, scanGo k ps pre = some (p, l) → overL k l = true
  | [], pre, l, p, h => by simp [scanGo] at h
  | x :: ps, pre, l, p, h => by
    simp only [scanGo] at h
    split at h
    · rename_i ho
      injection h with h
      injection h with h1 h2
      rw [← h2]; exact ho
    · exact scanGo_over h

theorem text_say (D : Nat) (k : Int) (tv : Value) (t : Nat) (l : List Int) (w : World) (hD : ScAt w D k tv (t : Int) true) (hl : SlI .i32 w.heap.size w tv l) (ht : t ≤ l.length) (hx : l.length ≤ 1099511627776) :
    Calls Try.prog 16 #[.pointer (some ⟨D, 0, none⟩)] w fun e w' => e = .returned (.string (strOfNums (sayR k t l))) ∧ Below w.heap.size w w' := by
  by_cases hk : k = 1
  · subst hk
    refine (text_doc D tv _ true w hD).mono ?_
    rintro e w' ⟨rfl, hb⟩
    exact ⟨rfl, hb⟩
  · have : sayR k t l = encs (l.take (l.length - t)) := by unfold sayR; rw [if_neg hk]
    rw [this]
    exact text_over D k tv t l w hD hk hl ht hx

theorem frm_others {S : Nat → Prop} {w w' : World} (h : Frm S w w') (hS : ∀ i, S i → ∃ c e f, w.heap[i]? = some (.cells c e f)) : KeepsOthers w w' :=
  ⟨h.size, fun k o hk ho => by
    have hl := (Array.getElem?_eq_some_iff.1 hk).1
    rw [h.block k hl (fun hs => by
      obtain ⟨c, e, f, he⟩ := hS k hs
      rw [he] at hk; cases hk
      simp [Obj.isCells] at ho)]
    exact hk⟩

/-- what stands between two rounds -/
def WI (D : Nat) (k : Int) (w1 w : World) (pre : List (Nat × Int)) (W : World) (o : Bool) (e : Int) : Prop :=
  ∃ tv t, ScAt W D k tv t o ∧ W.ownsRow w1.heap.size 21 1 tv (fixP pre).length ((fixP pre).map (Value.int .i32)) ∧ (o = true → t = if k = 0 then (endN (fixP pre) : Nat) else 1) ∧
    Boxed W (D + 1 + 1) 3 (.int .i64 e) ∧ Boxed W (D + 1) 33 (.pointer (some ⟨D, 0, none⟩)) ∧ Below w.heap.size w W ∧ w1.heap.size ≤ W.heap.size
theorem scAt_grown {A B : World} {row : Option Nat} {D : Nat} {k : Int} {tv : Value} {t : Int} {o : Bool} (h : ScAt A D k tv t o) (hg : A.grownBy B row) (hr : ∀ r, row = some r → ∃ ob : Obj, A.heap[r]? = some ob ∧ ob.isCells = false) : ScAt B D k tv t o :=
  h.of (hg.block D h.lt (fun e => by
    obtain ⟨ob, h1, h2⟩ := hr D e.symm
    rw [h] at h1; cases h1
    simp [Obj.isCells] at h2))
theorem owns_grown {A B : World} {row : Option Nat} {base : Nat} {e : TypeId} {size n : Nat} {v : Value} {cs : List Value} (h : A.ownsRow base e size v n cs) (hg : A.grownBy B row) (hr : ∀ r, row = some r → ∃ ob : Obj, A.heap[r]? = some ob ∧ ob.isCells = false) : B.ownsRow base e size v n cs :=
  h.kept hg (by
    cases hv : v.ownBlock with
    | none => exact .inl rfl
    | some g =>
      refine .inr fun e => ?_
      obtain ⟨ob, h1, h2⟩ := hr g (by rw [← e])
      obtain ⟨c, hc⟩ := owns_type h g hv
      rw [hc] at h1; cases h1
      simp [Obj.isCells] at h2)
theorem boxed_grown {A B : World} {row : Option Nat} {b : Nat} {t : TypeId} {v : Value} (h : Boxed A b t v) (hg : A.grownBy B row) (hr : ∀ r, row = some r → ∃ ob : Obj, A.heap[r]? = some ob ∧ ob.isCells = false) : Boxed B b t v :=
  boxed_own (β := Unit) b t (fun _ => v) () A B row h hg hr
theorem WI.grown {D : Nat} {k : Int} {w1 w : World} {pre : List (Nat × Int)} {A B : World} {o : Bool} {e : Int} {row : Option Nat} (h : WI D k w1 w pre A o e) (hg : A.grownBy B row) (hr : ∀ r, row = some r → w1.heap.size ≤ r ∧ ∃ ob : Obj, A.heap[r]? = some ob ∧ ob.isCells = false) (hw : w.heap.size ≤ w1.heap.size := by omega) : WI D k w1 w pre B o e := by
  obtain ⟨tv, t, h1, h2, h3, h4, h5, h6, h7⟩ := h
  have hr' := fun r e => (hr r e).2
  exact ⟨tv, t, scAt_grown h1 hg hr', owns_grown h2 hg hr', h3, boxed_grown h4 hg hr', boxed_grown h5 hg hr', h6.grown hg (by have := h6.size; omega) (fun k e => by have := (hr k e).1; omega), Nat.le_trans h7 hg.size⟩

set_option maxRecDepth 100000 in
set_option maxHeartbeats 4000000 in
theorem whole_any (k : Int) (s : ByteArray) (w : World) (k0 : 0 ≤ k) (k2 : k ≤ 2) (hx : s.size ≤ 274877906944) :
    Calls Try.prog 11 #[.int .i64 k, .string s] w fun e w' => e = .returned (.tuple #[.string (strOfNums (wholeR k (ns s)).1), .int .i64 ((wholeR k (ns s)).2.1 : Nat), .bool (wholeR k (ns s)).2.2, .int .i64 0]) ∧ Below w.heap.size w w' := by
  have hsl := ns_length s
  have hlen := prs_length (ns s)
  have hbytes := fun w0 => run_bytes_of_string (P := Try.prog) w0 9 47 5 s Try.underlying9 Try.underlying47 Try.underlying5
  refine (callsIn_wide (n := 3)).1 ?_
  refine callsIn_of_wp_marks Try.func11 rfl trivial ?_ rfl
  simp only [Try.ntmps11, List.size_toArray, List.length_cons, List.length_nil, Nat.reduceAdd, Nat.reduceSub, Array.replicate_succ, Array.replicate_zero, List.push_toArray, List.append_toArray, List.nil_append, List.cons_append]
  gi_wp2_with (fail)
  refine ⟨trivial, ?_⟩
  refine (callsIn_wide.2 (new_any k _ k0 k2)).mono ?_
  rintro e w' ⟨rfl, rfl⟩
  gi_wp2_with (fail)
  obtain ⟨W0, hW0⟩ : ∃ W0, ((w.alloc (.cells #[.int .i64 k, .slice none 0 0, .int .i64 0, .bool true, .bool false] 43)).alloc (.cells #[.pointer (some ⟨w.heap.size, 0, none⟩)] 33)).alloc (.cells #[.int .i64 (-1)] 3) = W0 := ⟨_, rfl⟩
  rw [hW0]
  have hsz0 : W0.heap.size = w.heap.size + 3 := by rw [← hW0]; simp
  have hb0 : Below w.heap.size w W0 := by rw [← hW0]; exact (((Below.refl _ w).alloc (Nat.le_refl _) _).alloc (by simp) _).alloc (by simp; omega) _
  have hD0 : ScAt W0 w.heap.size k (.slice none 0 0) 0 false := by
    rw [← hW0]; unfold ScAt
    rw [Below.heap_alloc _ _ _ (by simp; omega), Below.heap_alloc _ _ _ (by simp)]
    exact World.alloc_heap_new w _
  have bs : Boxed W0 (w.heap.size + 1) 33 (.pointer (some ⟨w.heap.size, 0, none⟩)) := by rw [← hW0]; have := (Boxed.new (w.alloc (.cells #[.int .i64 k, .slice none 0 0, .int .i64 0, .bool true, .bool false] 43)) 33 (.pointer (some ⟨w.heap.size, 0, none⟩))).alloc (.cells #[.int .i64 (-1)] 3); simpa using this
  have be : Boxed W0 (w.heap.size + 1 + 1) 3 (.int .i64 (-1)) := by rw [← hW0]; have := Boxed.new ((w.alloc (.cells #[.int .i64 k, .slice none 0 0, .int .i64 0, .bool true, .bool false] 43)).alloc (.cells #[.pointer (some ⟨w.heap.size, 0, none⟩)] 33)) 3 (.int .i64 (-1)); simpa using this
  have hcg := grownCap_ge W0 s.size 0 5
  generalize hcp : grownCap W0 s.size 0 5 = cp at *
  have hsl1 := slI_bytesRow W0 s cp hcg 5 ((bytesRow s cp).size, (bytesRow s cp).size + 1)
  obtain ⟨W1, hW1⟩ : ∃ W1, (W0.alloc (.cells (bytesRow s cp) 5 ((bytesRow s cp).size, (bytesRow s cp).size + 1))).drew = W1 := ⟨_, rfl⟩
  rw [hW1]
  have hb01 : Below W0.heap.size W0 W1 := by rw [← hW1]; exact below_drewN ((Below.refl _ W0).alloc (Nat.le_refl _) _) 1
  have hsz1 : W1.heap.size = w.heap.size + 4 := by rw [← hW1]; show (W0.alloc _).heap.size = _; rw [World.size_alloc, hsz0]
  have hs1 : SlI .u8 W1.heap.size W1 (.slice (some ⟨w.heap.size + 1 + 1 + 1, 0, none⟩) s.size cp) (ns s) := by
    have : SlI .u8 (W0.heap.size + 1) W1 (.slice (some ⟨W0.heap.size, 0, none⟩) s.size cp) (ns s) := by rw [← hW1]; exact hsl1
    rw [hsz0] at this
    rw [hsz1]; exact this
  have hD1 := hD0.below hb01 hD0.lt
  have bs1 := boxed_below bs hb01 bs.lt
  have be1 := boxed_below be hb01 be.lt
  have hB1 : Below w.heap.size w W1 := hb0.trans (hb01.mono hb0.size)
  have HSL := Lib.hid hsl
  clear hW0 hW1 hcp hsl1 hb01 hb0 hD0 bs be hcg hbytes hsl
  refine ⟨trivial, ?_⟩
  refine (callsIn_wide.2 (all_any _ _ (ns s) _ hs1 (Nat.le_refl _) (by rw [HSL.out]; omega))).mono ?_
  rintro e w1 ⟨rfl, hbox, hsz, hbel⟩
  obtain ⟨u, hcu, hu, hlow⟩ := hbox
  rw [hsz1] at hcu hlow hsz
  have hD2 := hD1.below hbel hD1.lt
  have bs2 := boxed_below bs1 hbel bs1.lt
  have be2 := boxed_below be1 hbel be1.lt
  have hB2 : Below w.heap.size w w1 := hB1.trans (hbel.mono hB1.size)
  clear hs1 hD1 bs1 be1 hB1 hbel hsz0
  have hbyt := (ns_byts s).byt
  have hx1 : (ns s).length ≤ 1099511627776 := by rw [HSL.out]; omega
  gi_wp2_with (fail)
  refine wpIn_rangeFunc_join rfl (by omega) (gf := 34) (lb := #[.pointer (some ⟨(w.heap.size + 4), 0, none⟩)]) rfl trivial (enters_of Try.func34 (by kernel_rfl) rfl)
    (all_stops (3 - 1) (by omega) (w.heap.size + 4) (w.heap.size + 4) w1.heap.size u (ns s) hbyt hx1 w1 (Nat.le_refl _) hsz (fun b hb => by have := hlow b hb; omega) (Nat.le_refl _) hcu hu) keepsK_t (keepsK_b (Nat.le_refl _)) (Below.refl _ _) (fun _ => rfl)
    (fun pre W => WI w.heap.size k w1 w pre W false (-1) ∧ NotYet k pre)
    (fun c pre W => c = .exit 0 ∧ ∃ pre' x, pre = pre' ++ [x] ∧ NotYet k pre' ∧ overL k (fixP pre) = true ∧ WI w.heap.size k w1 w pre W true (wrap64 ((x.1 : Int) + 1)))
    (fun W => (NotYet k (prs (ns s)) ∧ WI w.heap.size k w1 w (prs (ns s)) W false (-1)) ∨ (∃ pre p, scanGo k (prs (ns s)) [] = some (p, fixP pre) ∧ WI w.heap.size k w1 w pre W true ((p : Int) + 1) ∧ pre.length ≤ (prs (ns s)).length))
    ?hI ?hIx ?h0 ?a1 ?assign ?body ?done ?stop ?join
  case assign =>
    intro l x W K hK
    have HK := Lib.hid hK
    clear hK
    simp only [encPr]
    gi_wp2
    exact HK.out
  case hI => exact fun s A B row hs hg hr => ⟨hs.1.grown hg hr, hs.2⟩
  case hIx =>
    rintro c s A B row ⟨h1, pre', x, h2, h3, h4, h5⟩ hg hr
    exact ⟨h1, pre', x, h2, h3, h4, h5.grown hg hr⟩
  case h0 => exact ⟨⟨_, _, hD2, World.ownsRow_nil _ _ _ _, (fun h => by cases h), be2, bs2, hB2, Nat.le_refl _⟩, NotYet.nil k⟩
  case done => rintro ys W rfl h; exact .inl ⟨h.2, h.1⟩
  case stop =>
    rintro c pre W ⟨rest, hpre⟩ ⟨rfl, pre', x, rfl, h3, h4, h5⟩
    have hxl := prs_lt (ns s) x (by rw [← hpre]; simp)
    have hwr : wrap64 ((x.1 : Int) + 1) = (x.1 : Int) + 1 := IntWalk.wrap64_in _ (by have := HSL.out; omega)
    rw [hwr] at h5
    refine ⟨rfl, .inr ⟨_, x.1, ?_, h5, by rw [← hpre]; simp⟩⟩
    rw [← hpre, List.append_assoc]
    exact scanGo_some h3 h4
  case body =>
    rintro l pre x W ⟨hWI, hny⟩ hlt
    obtain ⟨tv, t, hD, hown, ht, hbe, hbs, hbw, hsw⟩ := hWI
    have cs := hbs.cell
    have hpl := fixP_length pre
    have hput := put_any w.heap.size w1.heap.size k tv t x.2 (fixP pre) W hD hown (by omega) hsw (by omega) k0 k2
    have hdep : 1 ≤ 3 - 1 - 1 := by omega
    rw [← fixP_snoc] at hput
    have hS1 : ¬ (w.heap.size + 1 = w.heap.size ∨ tv.ownBlock = some (w.heap.size + 1)) := by
      rintro (h | h)
      · omega
      · have := (hown.lt _ h).1; omega
    have hS2 : ¬ (w.heap.size + 1 + 1 = w.heap.size ∨ tv.ownBlock = some (w.heap.size + 1 + 1)) := by
      rintro (h | h)
      · omega
      · have := (hown.lt _ h).1; omega
    have hown' := hown
    have hfix : (fixP (pre ++ [x])).length = (fixP pre).length + 1 := by simp [fixP]
    have hkeep : ∀ W2, Frm (fun i => i = w.heap.size ∨ tv.ownBlock = some i) W W2 → KeepsOthers W W2 ∧ Keeps (w.heap.size + 4) w1.heap.size W W2 ∧ Boxed W2 (w.heap.size + 1) 33 (.pointer (some ⟨w.heap.size, 0, none⟩)) ∧ Boxed W2 (w.heap.size + 1 + 1) 3 (.int .i64 (-1)) ∧ Below w.heap.size w W2 ∧ w1.heap.size ≤ W2.heap.size := by
      intro W2 hf
      refine ⟨frm_others hf ?_, ⟨hf.size, fun k h1 h2 => hf.block k (by omega) ?_⟩, (hf.block _ hbs.lt hS1).trans hbs, (hf.block _ hbe.lt hS2).trans hbe, hbw.trans (hf.below (by have := hbw.size; omega) ?_), Nat.le_trans hsw hf.size⟩
      · rintro i (rfl | h)
        · exact ⟨_, _, _, hD⟩
        · obtain ⟨c, hc⟩ := owns_type hown' i h
          exact ⟨c, _, _, hc⟩
      · rintro (h | h)
        · omega
        · have := (hown'.lt _ h).1; omega
      · rintro k hk (h | h)
        · omega
        · have := (hown'.lt _ h).1; have := hbw.size; omega
    cases hov : overL k (fixP (pre ++ [x]))
    · rw [hov] at hput
      have HP := Lib.hid hput
      have HO := Lib.hid hov
      have HK := Lib.hid hkeep
      have HF := Lib.hid hfix
      clear hput hov hpl hkeep hfix hown hown' hS1 hS2
      gi_wp2_with (refine ⟨trivial, ?_⟩; gi_at_call 14; refine (CallsIn.inRound l (callsIn_wide.2 HP.out)).mono ?_; rintro e W2 ⟨tv2, rfl, hD3, ho3, hf3⟩)
      obtain ⟨q1, q2, q3, q4, q5, q6⟩ := HK.out _ hf3
      exact ⟨q1.from _, q2, ⟨tv2, _, hD3, by rw [HF.out]; exact ho3, (fun h => by cases h), q4, q3, q5, q6⟩, hny.snoc HO.out⟩
    · rw [hov] at hput
      have HP := Lib.hid hput
      have HO := Lib.hid hov
      have HK := Lib.hid hkeep
      have HF := Lib.hid hfix
      clear hput hov hpl hkeep hfix hown hown' hS1 hS2
      gi_wp2_with (refine ⟨trivial, ?_⟩; gi_at_call 14; refine (CallsIn.inRound l (callsIn_wide.2 HP.out)).mono ?_; rintro e W2 ⟨tv2, rfl, hD3, ho3, hf3⟩; have q := HK.out _ hf3; obtain ⟨q1, q2, q3, q4, q5, q6⟩ := q; have ce := q4.cell; have fe := q4.frozen)
      have hfs : Frm (fun i => i = w.heap.size + 1 + 1) W2 (W2.setCell ⟨w.heap.size + 1 + 1, 0, none⟩ (.int .i64 (wrap64 ((x.1 : Int) + 1)))) := Frm.setCell _ _ _ rfl
      have hpt : putT k t (fixR x.2) (fixP pre) = if k = 0 then (endN (fixP (pre ++ [x])) : Nat) else 1 := by
        rw [fixP_snoc]; exact putT_over (by rw [← fixP_snoc]; exact HO.out)
      refine ⟨(q1.trans (KeepsOthers.setCell _ _ _)).from _, rfl, pre, x, rfl, hny, HO.out, tv2, _, hD3.of (hfs.block _ hD3.lt (by omega)), by rw [HF.out]; exact ownsRow_frm ho3 hfs (fun k hk e => by subst e; have := (ho3.lt _ hk).1; omega), fun _ => hpt, q4.set _, (hfs.block _ q3.lt (by omega)).trans q3, q5.setCell (p := ⟨w.heap.size + 1 + 1, 0, none⟩) (by show w.heap.size ≤ w.heap.size + 1 + 1; omega) _, by simpa using q6⟩
  case join =>
    rintro D W hD (⟨hny, hWI⟩ | ⟨pre, p, hsg, hWI, hpl⟩) hK
    · obtain ⟨tv, t, hS, hown, ht, hbe, hbs, hbw, hsw⟩ := hWI
      have hwh : wholeR k (ns s) = (sayR k (openN k (fixP (prs (ns s)))) (fixP (prs (ns s))), s.size, false) := by unfold wholeR; rw [scanGo_none hny, ← HSL.out]
      have hfl := fixP_length (prs (ns s))
      have hol := openN_le k (fixP (prs (ns s)))
      have hend := end_any w.heap.size w1.heap.size k tv t (fixP (prs (ns s))) W hS hown (by omega) (by omega)
      have hBs := hown.lt
      have hll : (fixP (prs (ns s))).length ≤ 1099511627776 := by omega
      generalize fixP (prs (ns s)) = l at *
      have HE := Lib.hid hend
      have HK := Lib.hid hK
      have HWH := Lib.hid hwh
      clear hend hK hny hwh hown hfl
      have cs := hbs.cell
      have ce := hbe.cell
      gi_wp2_with (fail)
      refine ⟨trivial, ?_⟩
      refine (callsIn_wide.2 HE.out).mono ?_
      rintro e W2 ⟨rfl, hS2, hown2, hf2⟩
      have hbs2 : Boxed W2 (w.heap.size + 1) 33 (.pointer (some ⟨w.heap.size, 0, none⟩)) := (hf2.block _ hbs.lt (by omega)).trans hbs
      have hK2 : W2.heap[D]? = some (.deferred (some [])) := (hf2.block D (Array.getElem?_eq_some_iff.1 HK.out).1 (by omega)).trans HK.out
      have hB2 : Below w.heap.size w W2 := hbw.trans (hf2.below (by have := hbw.size; omega) (fun k hk h => by omega))
      have cs2 := hbs2.cell
      have hl2 := slI_of_owns hown2 (Nat.le_refl _)
      have htx := text_say w.heap.size k tv (openN k l) l W2 hS2 hl2 hol (by omega)
      have HT := Lib.hid htx
      have HK2 := Lib.hid hK2
      clear htx hK2 cs ce hown2 hf2
      gi_wp2_with (fail)
      refine ⟨trivial, ?_⟩
      refine (callsIn_wide.2 HT.out).mono ?_
      rintro e W3 ⟨rfl, hb3⟩
      have hK3 : W3.heap[D]? = some (.deferred (some [])) := (hb3.block D (Array.getElem?_eq_some_iff.1 HK2.out).1).trans HK2.out
      have hB3 := hB2.trans (hb3.mono hB2.size)
      have HK3 := Lib.hid hK3
      clear hK3
      gi_wp2
      exact leaves_mark1 HK3.out ⟨.tuple #[.string (strOfNums (sayR k (openN k l) l)), .int .i64 (s.size : Int), .bool false, .int .i64 0], by simp [results, Try.results11, go_sem], by rw [HWH.out], below_putObj hB3 _ (by omega) hB3.size⟩
    · obtain ⟨tv, t, hS, hown, ht, hbe, hbs, hbw, hsw⟩ := hWI
      obtain ⟨tn, htn, hte⟩ : ∃ tn : Nat, t = (tn : Int) ∧ tn = if k = 0 then endN (fixP pre) else 1 := ⟨if k = 0 then endN (fixP pre) else 1, by rw [ht rfl]; try (split <;> rfl), rfl⟩
      subst htn
      have hwh : wholeR k (ns s) = (sayR k tn (fixP pre), p + 1, true) := by unfold wholeR; rw [hsg, hte]
      have htl : tn ≤ (fixP pre).length := by
        rw [hte]
        have hov := scanGo_over hsg
        split
        · exact endN_le _
        · have := overL_pos hov; omega
      have hfl := fixP_length pre
      generalize fixP pre = l at *
      have HK := Lib.hid hK
      have HWH := Lib.hid hwh
      clear hK hsg hwh hte ht
      have cs := hbs.cell
      have ce := hbe.cell
      have hl2 := slI_of_owns hown (Nat.le_refl _)
      have htx := fun W2 (hG : Grew W W2) => text_say w.heap.size k tv tn l W2 (hS.below hG.below hS.lt) (hl2.step hG.below) htl (by omega)
      have HT := Lib.hid htx
      clear htx hown
      gi_upto_region 12 with (fail)
      refine wpIn_wide.2 ?_
      refine wp_region_noPanic ?_
      have hen := enters_of (P := Try.prog) Try.func16 (by kernel_rfl) rfl
      have HEN := Lib.hid hen
      clear hen
      go_region_law (refine step_call1 rfl 16 _ _ rfl HEN.out (.pointer (some ⟨w.heap.size, 0, none⟩)) (by go_simp) (HT.out _ (Grew.drawn W)) ?_; rintro e W3 ⟨rfl, hb3⟩; have ce3 := (hb3.cell (p := ⟨w.heap.size + 1 + 1, 0, none⟩) hbe.lt).trans ce; refine ⟨_, rfl, ?_⟩)
      all_goals
        refine NoPanic.normal ?_
        have hb3' : Below W.heap.size W W3 := Below.trans (Grew.drawn W) hb3
        have hK3 : W3.heap[D]? = some (.deferred (some [])) := (hb3'.block D (Array.getElem?_eq_some_iff.1 HK.out).1).trans HK.out
        have hB3 := hbw.trans (hb3'.mono hbw.size)
        have HK3 := Lib.hid hK3
        clear hK3
        go_simp
        gi_wp2
        exact leaves_mark1 HK3.out ⟨.tuple #[.string (strOfNums (sayR k tn l)), .int .i64 ((p : Int) + 1), .bool true, .int .i64 0], by simp [results, Try.results11, go_sem], by rw [HWH.out, show ((p + 1 : Nat) : Int) = (p : Int) + 1 from by omega], below_putObj hB3 _ (by omega) hB3.size⟩

end Go.Proofs.Ytoccmpaonicnnaa
