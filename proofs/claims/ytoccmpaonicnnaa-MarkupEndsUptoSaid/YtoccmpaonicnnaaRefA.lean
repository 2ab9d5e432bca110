/- sieveref01: Same, Lend, Kept, Copy; sievelaw01.same: what they compute (Same, Kept, same: where the answer is yes). -/
import Derived.Test.YtoccmpaonicnnaaProg
import Derived.Test.YtoccmpaonicnnaaSl
namespace Go.Proofs.Ytoccmpaonicnnaa
open Go.RowKit
set_option linter.unusedVariables false
set_option linter.unusedSimpArgs false

theorem Try.infoU8 : (Try.prog.info? 5).map (fun i => (i.zero, i.size, i.bytes)) = some (some (.int .u8 0), 1, 1) := by kernel_rfl

def lent (xs : List Int) : List Int := [165, 165] ++ xs ++ [165, 165]

theorem made_u8 (n : Nat) : (madeCells #[Value.int .u8 0] n).toList = (List.replicate n (0 : Int)).map (Value.int .u8) := by
  rw [toList_madeCells_one]; simp

theorem fill_step (n k : Nat) (h : k < n) : ((List.replicate k (165 : Int) ++ List.replicate (n - k) 0).map (Value.int .u8)).set k (.int .u8 165) = (List.replicate (k + 1) (165 : Int) ++ List.replicate (n - (k + 1)) 0).map (Value.int .u8) := by
  obtain ⟨m, rfl⟩ : ∃ m, n = k + (m + 1) := ⟨n - k - 1, by omega⟩
  rw [show k + (m + 1) - k = m + 1 from by omega, show k + (m + 1) - (k + 1) = m from by omega, List.replicate_succ, List.replicate_succ']
  simp only [List.map_append, List.map_cons, List.append_assoc, List.cons_append, List.nil_append, List.map_nil]
  exact set_at _ _ _ _ _ (by simp)

theorem lend_step (xs : List Int) (k : Nat) (x : Int) (h : xs[k]? = some x) : (([165, 165] ++ xs.take k ++ List.replicate (xs.length + 2 - k) (165 : Int)).map (Value.int .u8)).set (k + 2) (.int .u8 x) =
    ([165, 165] ++ xs.take (k + 1) ++ List.replicate (xs.length + 2 - (k + 1)) (165 : Int)).map (Value.int .u8) := by
  have hk : k < xs.length := (List.getElem?_eq_some_iff.1 h).1
  obtain ⟨m, hm⟩ : ∃ m, xs.length + 2 - k = m + 1 := ⟨xs.length + 1 - k, by omega⟩
  rw [hm, show xs.length + 2 - (k + 1) = m from by omega, List.replicate_succ, List.take_add_one, h]
  simp only [List.map_append, List.map_cons, List.append_assoc, List.cons_append, List.nil_append, List.map_nil, Option.toList_some]
  have := set_at (Value.int .u8 165 :: Value.int .u8 165 :: (xs.take k).map (Value.int .u8)) (.int .u8 165) (.int .u8 x) ((List.replicate m (165 : Int)).map (Value.int .u8)) (k + 2) (by simp; omega)
  simpa using this

/-- Copy: in new memory. -/
theorem copy_step (xs : List Int) (k : Nat) (x : Int) (h : xs[k]? = some x) : ((xs.take k ++ List.replicate (xs.length - k) (0 : Int)).map (Value.int .u8)).set k (.int .u8 x) =
    ((xs.take (k + 1) ++ List.replicate (xs.length - (k + 1)) (0 : Int)).map (Value.int .u8)) := by
  have hk : k < xs.length := (List.getElem?_eq_some_iff.1 h).1
  obtain ⟨m, hm⟩ : ∃ m, xs.length - k = m + 1 := ⟨xs.length - k - 1, by omega⟩
  rw [hm, show xs.length - (k + 1) = m from by omega, List.replicate_succ, List.take_add_one, h]
  simp only [List.map_append, List.map_cons, List.append_assoc, List.cons_append, List.nil_append, List.map_nil, Option.toList_some]
  exact set_at _ _ _ _ _ (by simp; omega)

end Go.Proofs.Ytoccmpaonicnnaa
