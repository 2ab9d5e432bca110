/- What the texts of this seat share: worlds that only drew, slices that read as a list of cells. No program is named here. -/
import Derived.WalkKit
import Derived.Deep.QuietTactic
import Derived.BigQuiet
import Derived.Lib.Hide
import Derived.WalkSmall
namespace Go.Proofs.Ytbdkiiaiadbmbaa
open Go.RowKit
set_option linter.unusedVariables false
set_option linter.unusedSimpArgs false

/-- The call only drew. -/
def Drew (w w' : World) : Prop := ∃ q, w' = w.drewN q
theorem Drew.refl (w : World) : Drew w w := ⟨0, rfl⟩
theorem Drew.drewN {w w' : World} (h : Drew w w') (q : Nat) : Drew w (w'.drewN q) := by
  obtain ⟨n, rfl⟩ := h; exact ⟨n + q, by simp⟩
theorem Drew.drew {w w' : World} (h : Drew w w') : Drew w w'.drew := by
  obtain ⟨n, rfl⟩ := h; exact ⟨n + 1, by simp⟩
theorem Drew.trans {a b c : World} (h : Drew a b) (k : Drew b c) : Drew a c := by
  obtain ⟨n, rfl⟩ := h; obtain ⟨m, rfl⟩ := k; exact ⟨n + m, by simp⟩
theorem Drew.cell {w w' : World} (h : Drew w w') (a : Addr) : w'.cell? a = w.cell? a := by obtain ⟨n, rfl⟩ := h; rfl
theorem Drew.below {w w' : World} (h : Drew w w') (B : Nat) : Below B w w' := by
  obtain ⟨n, rfl⟩ := h; exact below_drewN (Below.refl _ _) n
theorem Drew.size {w w' : World} (h : Drew w w') : w'.heap.size = w.heap.size := by obtain ⟨n, rfl⟩ := h; rfl

/-- From cell (b, off) on lie the numbers xs, of kind k. -/
def Run (k : IntKind) (w : World) (b off : Nat) (xs : List Int) : Prop := ∀ (j : Nat) x, xs[j]? = some x → w.cell? ⟨b, off + j, none⟩ = some (.int k x)
theorem Run.drop {k : IntKind} {w : World} {b off : Nat} {xs : List Int} (h : Run k w b off xs) (n : Nat) : Run k w b (off + n) (xs.drop n) := by
  intro j x hj
  have := h (n + j) x (by rw [List.getElem?_drop] at hj; exact hj)
  rw [Nat.add_assoc]; exact this
theorem Run.take {k : IntKind} {w : World} {b off : Nat} {xs : List Int} (h : Run k w b off xs) (n : Nat) : Run k w b off (xs.take n) := by
  intro j x hj
  refine h j x ?_
  rw [List.getElem?_take] at hj
  split at hj
  · exact hj
  · cases hj
theorem Run.below {k : IntKind} {B : Nat} {w w' : World} {b off : Nat} {xs : List Int} (h : Run k w b off xs) (hb : Below B w w') (hlt : b < B) : Run k w' b off xs :=
  fun j x hj => (hb.cell (p := ⟨b, off + j, none⟩) hlt).trans (h j x hj)
theorem Run.drew {k : IntKind} {w w' : World} {b off : Nat} {xs : List Int} (h : Run k w b off xs) (hd : Drew w w') : Run k w' b off xs :=
  fun j x hj => (hd.cell _).trans (h j x hj)

/-- Bytes, as numbers. -/
def Byt (xs : List Int) : Prop := ∀ (j : Nat) x, xs[j]? = some x → 0 ≤ x ∧ x ≤ 255
theorem Byt.drop {xs : List Int} (h : Byt xs) (n : Nat) : Byt (xs.drop n) := fun j x hj => h (n + j) x (by rw [List.getElem?_drop] at hj; exact hj)
theorem Byt.take {xs : List Int} (h : Byt xs) (n : Nat) : Byt (xs.take n) := by
  intro j x hj
  rw [List.getElem?_take] at hj
  split at hj
  · exact h j x hj
  · cases hj

/-- Blocks lo to hi are as they were; no block has gone. -/
structure Keeps (lo hi : Nat) (w w' : World) : Prop where
  size : w.heap.size ≤ w'.heap.size
  block : ∀ k, lo ≤ k → k < hi → w'.heap[k]? = w.heap[k]?
theorem Keeps.refl (lo hi : Nat) (w : World) : Keeps lo hi w w := ⟨Nat.le_refl _, fun _ _ _ => rfl⟩
theorem Keeps.trans {lo hi : Nat} {a b c : World} (h : Keeps lo hi a b) (k : Keeps lo hi b c) : Keeps lo hi a c :=
  ⟨Nat.le_trans h.size k.size, fun i h1 h2 => (k.block i h1 h2).trans (h.block i h1 h2)⟩
theorem Keeps.of_below {lo hi B : Nat} {w w' : World} (h : Below B w w') (hB : hi ≤ B) : Keeps lo hi w w' := ⟨h.size, fun k _ h2 => h.block k (by omega)⟩
theorem Keeps.drewN (lo hi : Nat) (w : World) (q : Nat) : Keeps lo hi w (w.drewN q) := ⟨Nat.le_refl _, fun _ _ _ => rfl⟩
theorem Keeps.cell {lo hi : Nat} {w w' : World} (h : Keeps lo hi w w') {p : Addr} (h1 : lo ≤ p.block) (h2 : p.block < hi) : w'.cell? p = w.cell? p := World.cell?_of_block (w := w) (h.block p.block h1 h2)
theorem Keeps.grown {lo hi : Nat} {w w' : World} {row : Option Nat} (hg : w.grownBy w' row) (hhi : hi ≤ w.heap.size) (hr : ∀ k, row = some k → k < lo ∨ hi ≤ k) : Keeps lo hi w w' :=
  ⟨hg.size, fun k h1 h2 => hg.block k (by omega) (fun e => by have := hr k e.symm; omega)⟩
theorem Keeps.alloc (lo hi : Nat) (w : World) (o : Obj) (hhi : hi ≤ w.heap.size) : Keeps lo hi w (w.alloc o) := ⟨by simp, fun k _ h2 => Below.heap_alloc _ _ _ (by omega)⟩
theorem Keeps.setCell (lo hi : Nat) (w : World) (p : Addr) (u : Value) (hp : p.block < lo ∨ hi ≤ p.block) : Keeps lo hi w (w.setCell p u) := ⟨by simp, fun k h1 h2 => Below.heap_setCell _ _ _ _ (by omega)⟩
theorem Run.keeps {k : IntKind} {lo hi : Nat} {w w' : World} {b off : Nat} {xs : List Int} (h : Run k w b off xs) (hb : Keeps lo hi w w') (h1 : lo ≤ b) (h2 : b < hi) : Run k w' b off xs :=
  fun j x hj => (hb.cell (p := ⟨b, off + j, none⟩) h1 h2).trans (h j x hj)

/-- masks of an int32 that is not negative -/
theorem i32_and31 (x : Int) (h0 : 0 ≤ x) (h1 : x < 2147483648) : bits .and .i32 x 31 = x % 32 := bits_mask .i32 31 (by decide) wraps_i32 5 (by decide) x h0 h1
theorem i32_and15 (x : Int) (h0 : 0 ≤ x) (h1 : x < 2147483648) : bits .and .i32 x 15 = x % 16 := bits_mask .i32 31 (by decide) wraps_i32 4 (by decide) x h0 h1
theorem i32_and7 (x : Int) (h0 : 0 ≤ x) (h1 : x < 2147483648) : bits .and .i32 x 7 = x % 8 := bits_mask .i32 31 (by decide) wraps_i32 3 (by decide) x h0 h1
theorem i32_and63 (x : Int) (h0 : 0 ≤ x) (h1 : x < 2147483648) : bits .and .i32 x 63 = x % 64 := bits_mask .i32 31 (by decide) wraps_i32 6 (by decide) x h0 h1
theorem i32_and1023 (x : Int) (h0 : 0 ≤ x) (h1 : x < 2147483648) : bits .and .i32 x 1023 = x % 1024 := bits_mask .i32 31 (by decide) wraps_i32 10 (by decide) x h0 h1

theorem get_of_lt (xs : List Int) {k : Nat} (h : k < xs.length) : ∃ x, xs[k]? = some x := ⟨xs[k], List.getElem?_eq_getElem h⟩

end Go.Proofs.Ytbdkiiaiadbmbaa
