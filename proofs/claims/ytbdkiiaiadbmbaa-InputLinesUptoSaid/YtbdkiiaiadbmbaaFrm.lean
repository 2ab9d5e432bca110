/- Worlds that differ in some blocks alone. -/
import Derived.Test.YtbdkiiaiadbmbaaStep
namespace Go.Proofs.Ytbdkiiaiadbmbaa
open Go.RowKit
set_option linter.unusedVariables false
set_option linter.unusedSimpArgs false

structure Frm (S : Nat → Prop) (w w' : World) : Prop where
  os : w'.os = w.os
  tape : w'.tape = w.tape
  output : w'.output = w.output
  size : w.heap.size ≤ w'.heap.size
  block : ∀ k, k < w.heap.size → ¬ S k → w'.heap[k]? = w.heap[k]?

theorem Frm.refl (S : Nat → Prop) (w : World) : Frm S w w := ⟨rfl, rfl, rfl, Nat.le_refl _, fun _ _ _ => rfl⟩
theorem Frm.of_below {S : Nat → Prop} {w w' : World} (h : Below w.heap.size w w') : Frm S w w' := ⟨h.os, h.tape, h.output, h.size, fun k hk _ => h.block k hk⟩
theorem Frm.of_grown {S : Nat → Prop} {w w' : World} {row : Option Nat} (h : w.grownBy w' row) (hr : ∀ k, row = some k → S k) : Frm S w w' :=
  ⟨h.os, h.tape, h.output, h.size, fun k hk hs => h.block k hk (fun e => hs (hr k e.symm))⟩
theorem Frm.setCell {S : Nat → Prop} (w : World) (p : Addr) (v : Value) (hp : S p.block) : Frm S w (w.setCell p v) :=
  ⟨rfl, rfl, rfl, by simp, fun k hk hs => Below.heap_setCell _ _ _ _ (fun e => hs (e ▸ hp))⟩
theorem Frm.trans {S T : Nat → Prop} {a b c : World} (h : Frm S a b) (k : Frm T b c) (hT : ∀ i, i < a.heap.size → T i → S i) : Frm S a c :=
  ⟨k.os.trans h.os, k.tape.trans h.tape, k.output.trans h.output, Nat.le_trans h.size k.size, fun i hi hs => (k.block i (Nat.lt_of_lt_of_le hi h.size) (fun ht => hs (hT i hi ht))).trans (h.block i hi hs)⟩
theorem Frm.next {S : Nat → Prop} {a b c : World} (h : Frm S a b) (k : Below b.heap.size b c) : Frm S a c := h.trans (Frm.of_below (S := S) k) (fun _ _ h => h)
theorem Frm.below {S : Nat → Prop} {w w' : World} {n : Nat} (h : Frm S w w') (hn : n ≤ w.heap.size) (hS : ∀ k, k < n → ¬ S k) : Below n w w' :=
  ⟨h.os, h.tape, h.output, h.size, fun k hk => h.block k (by omega) (hS k hk)⟩
theorem Frm.wide {S T : Nat → Prop} {w w' : World} (h : Frm S w w') (hT : ∀ i, i < w.heap.size → S i → T i) : Frm T w w' :=
  ⟨h.os, h.tape, h.output, h.size, fun k hk hs => h.block k hk (fun hh => hs (hT k hk hh))⟩
theorem Frm.cell {S : Nat → Prop} {w w' : World} (h : Frm S w w') {p : Addr} (hp : p.block < w.heap.size) (hs : ¬ S p.block) : w'.cell? p = w.cell? p := World.cell?_of_block (h.block _ hp hs)

/-- what a call owns stays what it is -/
theorem ownsRow_frm {S : Nat → Prop} {w w' : World} {base : Nat} {e : TypeId} {size : Nat} {v : Value} {n : Nat} {cs : List Value} (h : w.ownsRow base e size v n cs) (hf : Frm S w w') (hS : ∀ k, v.ownBlock = some k → ¬ S k) : w'.ownsRow base e size v n cs := by
  refine ⟨h.1, ?_⟩
  rcases h.2 with hn | ⟨g, cap, cur, rfl, hb, hgg, rest⟩
  · exact .inl hn
  · refine .inr ⟨g, cap, cur, rfl, hb, ?_, rest⟩
    rw [hf.block g (Array.getElem?_eq_some_iff.1 hgg).1 (hS g (by simp [Value.ownBlock]))]
    exact hgg
theorem SlI.frm {S : Nat → Prop} {k : IntKind} {B : Nat} {w w' : World} {v : Value} {xs : List Int} (h : SlI k B w v xs) (hf : Frm S w w') (hB : B ≤ w.heap.size) (hS : ∀ k, v.ownBlock = some k → ¬ S k) : SlI k B w' v xs := by
  obtain ⟨ao, cap, rfl, hc, hn, hr⟩ := h
  refine ⟨ao, cap, rfl, hc, hn, fun h0 => ?_⟩
  obtain ⟨b, off, rfl, hlt, hrun⟩ := hr h0
  refine ⟨b, off, rfl, hlt, fun j x hj => ?_⟩
  rw [hf.cell (p := ⟨b, off + j, none⟩) (by show b < _; omega) (hS b (by simp [Value.ownBlock]))]
  exact hrun j x hj

/-- the block of an owned row has its element's type -/
theorem owns_type {w : World} {base : Nat} {e : TypeId} {size : Nat} {v : Value} {n : Nat} {cs : List Value} (h : w.ownsRow base e size v n cs) : ∀ k, v.ownBlock = some k → ∃ cur, w.heap[k]? = some (.cells cur e) := by
  intro k hk
  rcases h.2 with ⟨rfl, _⟩ | ⟨g, cap, cur, rfl, hb, hgg, rest⟩
  · simp [Value.ownBlock] at hk
  · simp [Value.ownBlock] at hk
    subst hk
    exact ⟨cur, hgg⟩
theorem owns_apart {w : World} {base base' : Nat} {e e' : TypeId} {size size' : Nat} {v v' : Value} {n n' : Nat} {cs cs' : List Value} (h : w.ownsRow base e size v n cs) (h' : w.ownsRow base' e' size' v' n' cs') (hne : e ≠ e') :
    ∀ k, v.ownBlock = some k → v'.ownBlock ≠ some k := by
  intro k hk hk'
  obtain ⟨c, hc⟩ := owns_type h k hk
  obtain ⟨c', hc'⟩ := owns_type h' k hk'
  rw [hc] at hc'
  injection hc' with hc'
  injection hc' with _ he _
  exact hne he

end Go.Proofs.Ytbdkiiaiadbmbaa
