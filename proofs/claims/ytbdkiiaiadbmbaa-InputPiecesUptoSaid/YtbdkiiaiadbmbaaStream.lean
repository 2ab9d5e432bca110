/- input.Stream, one that is made. -/
import Derived.Test.YtbdkiiaiadbmbaaInRefB
import Derived.Test.YtbdkiiaiadbmbaaInSt
namespace Go.Proofs.Ytbdkiiaiadbmbaa
open Go.RowKit
set_option linter.unusedVariables false
set_option linter.unusedSimpArgs false

/-- a stream that is made: its place, what it holds, whether it is over -/
def StAt (w : World) (D : Nat) (p : Pl) (hv : Value) (o : Bool) : Prop := RdAt w D 45 [.bool true, .bool o] p hv
theorem StAt.more {w : World} {D : Nat} {p : Pl} {hv : Value} {o : Bool} (h : StAt w D p hv o) : w.cell? ⟨D, 4, none⟩ = some (.bool true) ∧ w.cell? ⟨D, 5, none⟩ = some (.bool o) ∧ w.frozen? ⟨D, 5, none⟩ = false := by
  unfold StAt RdAt at h
  simp [World.cell?, World.frozen?, h]
theorem StAt.set5 {w : World} {D : Nat} {p : Pl} {hv : Value} {o : Bool} (h : StAt w D p hv o) (b : Bool) : StAt (w.setCell ⟨D, 5, none⟩ (.bool b)) D p hv b := by
  unfold StAt RdAt at h ⊢
  simp [World.setCell, Array.getElem?_modify, h]
theorem StAt.of {w w' : World} {D : Nat} {p : Pl} {hv : Value} {o : Bool} (h : StAt w D p hv o) (hb : w'.heap[D]? = w.heap[D]?) : StAt w' D p hv o := hb.trans h
theorem StAt.lt {w : World} {D : Nat} {p : Pl} {hv : Value} {o : Bool} (h : StAt w D p hv o) : D < w.heap.size := (Array.getElem?_eq_some_iff.1 h).1

theorem snew_any (w : World) : Calls Try.prog 24 #[] w fun e w' => e = .returned (.pointer (some ⟨w.heap.size, 0, none⟩)) ∧ StAt w' w.heap.size pl0 (.slice none 0 0) false ∧ Below w.heap.size w w' ∧ w'.heap.size = w.heap.size + 1 := by
  have h : StAt (w.alloc (.cells #[.int .i64 0, .int .i64 1, .int .i64 1, .slice none 0 0, .bool true, .bool false] 45)) w.heap.size pl0 (.slice none 0 0) false := World.alloc_heap_new w _
  have H := Lib.hid h
  clear h
  go_enter Try.func24, Try.ntmps24
  go_wp2
  go_ret
  exact ⟨rfl, H.out, (Below.refl _ _).alloc (Nat.le_refl _) _, by simp⟩
theorem sready_ok (D : Nat) (p : Pl) (hv : Value) (w : World) (h : StAt w D p hv false) : Calls Try.prog 39 #[.pointer (some ⟨D, 0, none⟩)] w fun e w' => e = .returned (.int .i64 0) ∧ w = w' := by
  obtain ⟨c4, c5, f5⟩ := h.more
  go_enter Try.func39, Try.ntmps39
  go_wp2
  go_ret
  exact ⟨rfl, rfl⟩
theorem sfeed_over (D : Nat) (p : Pl) (hv bv : Value) (w : World) (h : StAt w D p hv true) : Calls Try.prog 21 #[.pointer (some ⟨D, 0, none⟩), bv] w fun e w' => e = .returned (.tuple #[.slice none 0 0, .int .i64 3]) ∧ w = w' := by
  obtain ⟨c4, c5, f5⟩ := h.more
  go_enter Try.func21, Try.ntmps21
  go_wp2_with go_in
  go_ret2
  exact ⟨rfl, rfl⟩
theorem send_over (D : Nat) (p : Pl) (hv : Value) (w : World) (h : StAt w D p hv true) : Calls Try.prog 22 #[.pointer (some ⟨D, 0, none⟩)] w fun e w' => e = .returned (.tuple #[.slice none 0 0, .int .i64 3]) ∧ w = w' := by
  obtain ⟨c4, c5, f5⟩ := h.more
  go_enter Try.func22, Try.ntmps22
  go_wp2_with go_in
  go_ret2
  exact ⟨rfl, rfl⟩
theorem splace_any (D : Nat) (p : Pl) (hv : Value) (o : Bool) (w : World) (h : StAt w D p hv o) : Calls Try.prog 23 #[.pointer (some ⟨D, 0, none⟩)] w fun e w' => e = .returned (.agg #[.int .i64 p.b, .int .i64 p.l, .int .i64 p.c]) ∧ Below w.heap.size w w' := by
  obtain ⟨c4, c5, f5⟩ := h.more
  obtain ⟨c0, c1, c2, _, _, _, _, _⟩ := RdAt.cells h
  have hl := h.lt
  go_enter Try.func23, Try.ntmps23
  go_wp2
  refine bodyPost_ret (v := .agg #[.int .i64 p.b, .int .i64 p.l, .int .i64 p.c]) (by simp [results, Try.results23, go_sem]; first | done | rfl) rfl ⟨rfl, (Below.refl _ _).alloc (Nat.le_refl _) _⟩
theorem sfeed_any (D base B : Nat) (p : Pl) (hv bv : Value) (hs xs : List Int) (w : World) (hD : StAt w D p hv false) (hown : w.ownsRow base 5 1 hv hs.length (hs.map (Value.int .u8))) (hDb : D < base) (hbase : base ≤ w.heap.size)
    (hsx : SlI .u8 B w bv xs) (hB : B ≤ w.heap.size) (hb : Byt hs) (hbx : Byt xs) (hl : hs.length + xs.length ≤ 1099511627776) (hp : Fits p 1099511627776) :
    Calls Try.prog 21 #[.pointer (some ⟨D, 0, none⟩), bv] w fun e w' => ∃ u hv', e = .returned (.tuple #[u, .int .i64 0]) ∧ StAt w' D (pl (gr (wd ((hs ++ xs).take (sureOf false (hs ++ xs))))) p) hv' false ∧
      w'.ownsRow w.heap.size 5 1 hv' ((hs ++ xs).drop (sureOf false (hs ++ xs))).length (((hs ++ xs).drop (sureOf false (hs ++ xs))).map (Value.int .u8)) ∧
      w'.ownsRow w.heap.size 36 4 u (gr (wd ((hs ++ xs).take (sureOf false (hs ++ xs))))).length (encKs (cl (gr (wd ((hs ++ xs).take (sureOf false (hs ++ xs))))) p)) ∧ Frm (fun i => i = D ∨ hv.ownBlock = some i) w w' := by
  have hc := cells_any D base B 45 [.bool true, .bool false] p hv bv hs xs false w hD hown hDb hbase hsx hB hb hbx hl hp
  generalize (gr (wd ((hs ++ xs).take (sureOf false (hs ++ xs))))).length = N at *
  generalize gr (wd ((hs ++ xs).take (sureOf false (hs ++ xs)))) = G at *
  generalize (hs ++ xs).drop (sureOf false (hs ++ xs)) = Z at *
  have HC := Lib.hid hc
  have HR := Lib.hid (sready_ok D p hv w hD)
  clear hc
  go_enter Try.func21, Try.ntmps21
  go_wp2_with (first
    | (go_at_call 39; refine HR.out.mono ?_; rintro e w' ⟨rfl, rfl⟩)
    | (go_at_call 34; refine HC.out.mono ?_; rintro e w2 ⟨u, hv', rfl, hA, hB', hC, hF⟩))
  go_ret2
  exact ⟨u, hv', rfl, hA, hB', hC, hF⟩
theorem send_any (D base : Nat) (p : Pl) (hv : Value) (hs : List Int) (w : World) (hD : StAt w D p hv false) (hown : w.ownsRow base 5 1 hv hs.length (hs.map (Value.int .u8))) (hDb : D < base) (hbase : base ≤ w.heap.size)
    (hb : Byt hs) (hl : hs.length ≤ 1099511627776) (hp : Fits p 1099511627776) :
    Calls Try.prog 22 #[.pointer (some ⟨D, 0, none⟩)] w fun e w' => ∃ u p' hv', e = .returned (.tuple #[u, .int .i64 0]) ∧ StAt w' D p' hv' true ∧
      w'.ownsRow w.heap.size 36 4 u (gr (wd hs)).length (encKs (cl (gr (wd hs)) p)) ∧ Frm (fun i => i = D ∨ hv.ownBlock = some i) w w' := by
  have hD2 := hD.set5 true
  have hfs : Frm (fun i => i = D) w (w.setCell ⟨D, 5, none⟩ (.bool true)) := Frm.setCell _ _ _ rfl
  have hown2 := ownsRow_frm hown hfs (fun k hk e => by subst e; have := (hown.lt _ hk).1; omega)
  have hc := cells_any D base 0 45 [.bool true, .bool true] p hv (.slice none 0 0) hs [] true _ hD2 hown2 hDb (by simpa using hbase) (SlI.nil _ _ _) (Nat.zero_le _) hb (fun j x h => by simp at h) (by simpa using hl) hp
  have hsu : sureOf true (hs ++ []) = hs.length := by simp [sureOf]
  rw [hsu] at hc
  simp only [List.append_nil, List.take_length, List.drop_length] at hc
  generalize (gr (wd hs)).length = N at *
  generalize gr (wd hs) = G at *
  have HC := Lib.hid hc
  have HR := Lib.hid (sready_ok D p hv w hD)
  obtain ⟨c4, c5, f5⟩ := hD.more
  clear hc
  go_enter Try.func22, Try.ntmps22
  go_wp2_with (first
    | (go_at_call 39; refine HR.out.mono ?_; rintro e w' ⟨rfl, rfl⟩)
    | (go_at_call 34; refine HC.out.mono ?_; rintro e w2 ⟨u, hv', rfl, hA, hB', hC, hF⟩))
  go_ret2
  exact ⟨u, _, hv', rfl, hA, ownsRow_base hC (by simp), (hfs.wide (T := fun i => i = D ∨ hv.ownBlock = some i) (fun i _ h => .inl h)).trans hF (fun _ _ h => h)⟩

end Go.Proofs.Ytbdkiiaiadbmbaa
