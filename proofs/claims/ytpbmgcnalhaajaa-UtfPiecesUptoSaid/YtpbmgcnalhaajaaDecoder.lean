/- utf.Decoder: Feed, End, Held. -/
import Derived.Test.YtpbmgcnalhaajaaSub
import Derived.Test.YtpbmgcnalhaajaaUtfB
import Derived.Test.YtpbmgcnalhaajaaUtfC
import Derived.Test.YtpbmgcnalhaajaaBytes
import Derived.Test.YtpbmgcnalhaajaaDecC
namespace Go.Proofs.Ytpbmgcnalhaajaa
open Go.RowKit
set_option linter.unusedVariables false
set_option linter.unusedSimpArgs false

/-- a decoder: what it holds, and whether it is over -/
def DecAt (w : World) (D : Nat) (hv : Value) (o : Bool) : Prop := w.heap[D]? = some (.cells #[hv, .bool true, .bool o] 54)
theorem DecAt.lt {w : World} {D : Nat} {hv : Value} {o : Bool} (h : DecAt w D hv o) : D < w.heap.size := (Array.getElem?_eq_some_iff.1 h).1
theorem DecAt.cells {w : World} {D : Nat} {hv : Value} {o : Bool} (h : DecAt w D hv o) :
    w.cell? ⟨D, 0, none⟩ = some hv ∧ w.cell? ⟨D, 1, none⟩ = some (.bool true) ∧ w.cell? ⟨D, 2, none⟩ = some (.bool o) ∧ w.frozen? ⟨D, 0, none⟩ = false ∧ w.frozen? ⟨D, 2, none⟩ = false := by
  unfold DecAt at h
  simp [World.cell?, World.frozen?, h]
theorem DecAt.of {w w' : World} {D : Nat} {hv : Value} {o : Bool} (h : DecAt w D hv o) (hb : w'.heap[D]? = w.heap[D]?) : DecAt w' D hv o := hb.trans h
theorem DecAt.set0 {w : World} {D : Nat} {hv : Value} {o : Bool} (h : DecAt w D hv o) (v : Value) : DecAt (w.setCell ⟨D, 0, none⟩ v) D v o := by
  unfold DecAt at h ⊢
  simp [World.setCell, Array.getElem?_modify, h]
theorem DecAt.set2 {w : World} {D : Nat} {hv : Value} {o : Bool} (h : DecAt w D hv o) (b : Bool) : DecAt (w.setCell ⟨D, 2, none⟩ (.bool b)) D hv b := by
  unfold DecAt at h ⊢
  simp [World.setCell, Array.getElem?_modify, h]

theorem held_any (D : Nat) (hv : Value) (o : Bool) (a : Option Addr) (n cap : Nat) (w : World) (hD : DecAt w D (.slice a n cap) o) :
    Calls Try.prog 35 #[.pointer (some ⟨D, 0, none⟩)] w fun e w' => e = .returned (.int .i64 (n : Int)) ∧ w = w' := by
  obtain ⟨c0, c1, c2, f0, f2⟩ := hD.cells
  go_enter Try.func35, Try.ntmps35
  go_wp2
  go_ret
  exact ⟨rfl, rfl⟩

theorem feed_over (D : Nat) (hv bv : Value) (w : World) (hD : DecAt w D hv true) :
    Calls Try.prog 33 #[.pointer (some ⟨D, 0, none⟩), bv] w fun e w' => e = .returned (.tuple #[.slice none 0 0, .int .i64 3]) ∧ w = w' := by
  obtain ⟨c0, c1, c2, f0, f2⟩ := hD.cells
  go_enter Try.func33, Try.ntmps33
  go_wp2_with go_in
  go_ret2
  exact ⟨rfl, rfl⟩
theorem end_over (D : Nat) (hv : Value) (w : World) (hD : DecAt w D hv true) :
    Calls Try.prog 34 #[.pointer (some ⟨D, 0, none⟩)] w fun e w' => e = .returned (.tuple #[.slice none 0 0, .int .i64 3]) ∧ w = w' := by
  obtain ⟨c0, c1, c2, f0, f2⟩ := hD.cells
  go_enter Try.func34, Try.ntmps34
  go_wp2_with go_in
  go_ret2
  exact ⟨rfl, rfl⟩

theorem ready_ok (D : Nat) (hv : Value) (w : World) (hD : DecAt w D hv false) :
    Calls Try.prog 53 #[.pointer (some ⟨D, 0, none⟩)] w fun e w' => e = .returned (.int .i64 0) ∧ w = w' := by
  obtain ⟨c0, c1, c2, f0, f2⟩ := hD.cells
  go_enter Try.func53, Try.ntmps53
  go_wp2
  go_ret
  exact ⟨rfl, rfl⟩

set_option maxHeartbeats 2000000 in
theorem end_any (D base : Nat) (hv : Value) (hs : List Int) (w : World) (hD : DecAt w D hv false) (hown : w.ownsRow base 5 1 hv hs.length (hs.map (Value.int .u8))) (hb : Byt hs) (hl : hs.length ≤ 1099511627776) :
    Calls Try.prog 34 #[.pointer (some ⟨D, 0, none⟩)] w fun e w' => ∃ u, e = .returned (.tuple #[u, .int .i64 0]) ∧ DecAt w' D (.slice none 0 0) true ∧
      w'.ownsRow w.heap.size 21 1 u (runesOf hs).length ((runesOf hs).map (Value.int .i32)) ∧ Frm (fun i => i = D) w w' := by
  obtain ⟨c0, c1, c2, f0, f2⟩ := hD.cells
  have hlt := hD.lt
  have hsl := slI_of_owns hown (Nat.le_refl _)
  go_enter Try.func34, Try.ntmps34
  go_wp2_with (first
    | (go_at_call 53; refine (ready_ok D hv _ hD).mono ?_; rintro e w' ⟨rfl, rfl⟩)
    | (go_at_call 26; refine (runes_any _ _ hs _ hsl (Nat.le_refl _) hb hl).mono ?_; rintro e w2 ⟨u, rfl, hown2, hb2⟩; have hD2 := hD.of (hb2.block D hlt); have q := hD2.cells; obtain ⟨d0, d1, d2, e0, e2⟩ := q; have hq := (hD2.set0 (.slice none 0 0)).cells; obtain ⟨g0, g1, g2, k0, k2⟩ := hq))
  go_ret2
  have hf : Frm (fun i => i = D) w2 ((w2.setCell ⟨D, 0, none⟩ (.slice none 0 0)).setCell ⟨D, 2, none⟩ (.bool true)) :=
    Frm.trans (T := fun i => i = D) (Frm.setCell (S := fun i => i = D) w2 ⟨D, 0, none⟩ _ rfl) (Frm.setCell (S := fun i => i = D) _ ⟨D, 2, none⟩ _ rfl) (fun _ _ h => h)
  refine ⟨u, rfl, (hD2.set0 _).set2 true, ownsRow_frm hown2 hf (fun k hk e => ?_), (Frm.of_below hb2).trans hf (fun _ _ h => h)⟩
  have := (hown2.lt k hk).1
  omega

theorem byt_append {a b : List Int} (ha : Byt a) (hb : Byt b) : Byt (a ++ b) := by
  intro j x hj
  rcases Nat.lt_or_ge j a.length with h | h
  · rw [List.getElem?_append_left h] at hj; exact ha j x hj
  · rw [List.getElem?_append_right h] at hj; exact hb _ x hj
theorem byt_take {a : List Int} (ha : Byt a) (n : Nat) : Byt (a.take n) := by
  intro j x hj
  rw [List.getElem?_take] at hj
  split at hj
  · exact ha j x hj
  · cases hj

end Go.Proofs.Ytpbmgcnalhaajaa
