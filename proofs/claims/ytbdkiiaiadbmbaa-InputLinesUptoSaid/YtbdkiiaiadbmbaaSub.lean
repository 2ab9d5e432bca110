/- x[lo:hi], x[lo:], x[:hi] of a slice, whatever it leads to. -/
import Derived.Test.YtbdkiiaiadbmbaaFrm
import Derived.ChangeKeysEq
namespace Go.Proofs.Ytbdkiiaiadbmbaa
open Go.RowKit
set_option linter.unusedVariables false
set_option linter.unusedSimpArgs false

def subV (ao : Option Addr) (cap lo hi : Nat) : Value := .slice (if cap = lo then ao else ao.map (·.add lo)) (hi - lo) (cap - lo)
theorem slI_sub {k : IntKind} {B : Nat} {w : World} {ao : Option Addr} {n cap : Nat} {xs : List Int} (h : SlI k B w (.slice ao n cap) xs) {lo hi : Nat} (h1 : lo ≤ hi) (h2 : hi ≤ xs.length) : SlI k B w (subV ao cap lo hi) ((xs.take hi).drop lo) := by
  obtain ⟨ao', cap', he, hc, hn, hr⟩ := h
  injection he with e1 e2 e3
  subst e1 e2 e3
  have hl : ((xs.take hi).drop lo).length = hi - lo := by simp; omega
  refine ⟨if cap = lo then ao else ao.map (·.add lo), cap - lo, by rw [hl]; rfl, by omega, fun e => ?_, fun h0 => ?_⟩
  · split at e
    · omega
    · rw [Option.map_eq_none_iff] at e
      have := hn e; omega
  · obtain ⟨b, off, rfl, hb, hrun⟩ := hr (by omega)
    refine ⟨b, off + lo, ?_, hb, ?_⟩
    · rw [if_neg (by omega)]; simp [Addr.add_lit, Addr.add]
    · intro j x hj
      have hjl := (List.getElem?_eq_some_iff.1 hj).1
      rw [List.getElem?_drop, List.getElem?_take, if_pos (by omega)] at hj
      have := hrun (lo + j) x hj
      rw [show off + lo + j = off + (lo + j) from by omega]; exact this
theorem subV_block {ao : Option Addr} {cap lo hi n : Nat} : (subV ao cap lo hi).ownBlock = (Value.slice ao n cap).ownBlock := by
  unfold subV
  split
  · cases ao <;> rfl
  · cases ao with
    | none => rfl
    | some a => simp [Value.ownBlock, Addr.add]; split <;> rfl

section
variable {P : Program} (t e : TypeId) (ht : P.underlying t = some (.slice e)) (i : TypeInfo) (hi' : P.info? e = some i) (hs : P.cellsOf e = 1) (ao : Option Addr)
include ht hi' hs
theorem run_sub (n cap lo hi : Nat) (h1 : lo ≤ hi) (h2 : hi ≤ cap) (w : World) :
    (Instr.slice t (.slice ao n cap) (some (.int .i64 (lo : Int))) (some (.int .i64 (hi : Int))) none).run P w = .ok (subV ao cap lo hi) w := by
  simp [Instr.slice, Instr.sliceBounds, Instr.sliceBound, run_underlying ht, go_sem, run_sizeOf w hi', hs, subV, h1, h2]
theorem run_sub_from (n cap lo : Nat) (h1 : lo ≤ n) (w : World) :
    (Instr.slice t (.slice ao n cap) (some (.int .i64 (lo : Int))) none none).run P w = .ok (subV ao cap lo n) w := by
  simp [Instr.slice, Instr.sliceBounds, Instr.sliceBound, run_underlying ht, go_sem, run_sizeOf w hi', hs, subV, h1]
theorem run_sub_to (n cap hi : Nat) (h2 : hi ≤ cap) (w : World) :
    (Instr.slice t (.slice ao n cap) none (some (.int .i64 (hi : Int))) none).run P w = .ok (.slice ao hi cap) w := by
  simp [Instr.slice, Instr.sliceBounds, Instr.sliceBound, run_underlying ht, go_sem, run_sizeOf w hi', hs, h2]
  try (cases ao <;> simp [Addr.add_lit, Addr.add])
end

/-! the same as steps of a walk -/
section
variable {P : Program} {w : World} {ops : Array Oper} {rest : List Oper} {o : Oper} {a : Act} {Q : Exit → Act → World → Prop}
theorem wpList_sub (hgd : o.guard = none) (t : TypeId) (x lo hi : Operand) (ho : o.op = .slice t x (some lo) (some hi) none) (e : TypeId) (ht : P.underlying t = some (.slice e)) (i : TypeInfo) (hi' : P.info? e = some i) (hs : P.cellsOf e = 1)
    (ao : Option Addr) (n cap l h : Nat) (hx : a.eval x = .slice ao n cap) (hlo : a.eval lo = .int .i64 (l : Int)) (hhi : a.eval hi = .int .i64 (h : Int)) (h1 : l ≤ h) (h2 : h ≤ cap) {sv : Value} (hsv : subV ao cap l h = sv) (hk : wpList P ops Q rest (a.put o.dst sv) w) : wpList P ops Q (o :: rest) a w := by
  subst hsv
  refine wpList_plain hgd fun K hK => ?_
  unfold Oper.wp
  have hrun := run_sub t e ht i hi' hs ao n cap l h h1 h2 w
  simp [execOp, ho, hx, hlo, hhi, Instr.sliceAt, run_underlying ht, hrun, Result.andThen]
  exact hK _ _ hk
theorem wpList_sub_from (hgd : o.guard = none) (t : TypeId) (x lo : Operand) (ho : o.op = .slice t x (some lo) none none) (e : TypeId) (ht : P.underlying t = some (.slice e)) (i : TypeInfo) (hi' : P.info? e = some i) (hs : P.cellsOf e = 1)
    (ao : Option Addr) (n cap l : Nat) (hx : a.eval x = .slice ao n cap) (hlo : a.eval lo = .int .i64 (l : Int)) (h1 : l ≤ n) {sv : Value} (hsv : subV ao cap l n = sv) (hk : wpList P ops Q rest (a.put o.dst sv) w) : wpList P ops Q (o :: rest) a w := by
  subst hsv
  refine wpList_plain hgd fun K hK => ?_
  unfold Oper.wp
  have hrun := run_sub_from t e ht i hi' hs ao n cap l h1 w
  simp [execOp, ho, hx, hlo, Instr.sliceAt, run_underlying ht, hrun, Result.andThen]
  exact hK _ _ hk
theorem wpList_sub_to (hgd : o.guard = none) (t : TypeId) (x hi : Operand) (ho : o.op = .slice t x none (some hi) none) (e : TypeId) (ht : P.underlying t = some (.slice e)) (i : TypeInfo) (hi' : P.info? e = some i) (hs : P.cellsOf e = 1)
    (ao : Option Addr) (n cap h : Nat) (hx : a.eval x = .slice ao n cap) (hhi : a.eval hi = .int .i64 (h : Int)) (h2 : h ≤ cap) (hk : wpList P ops Q rest (a.put o.dst (.slice ao h cap)) w) : wpList P ops Q (o :: rest) a w := by
  refine wpList_plain hgd fun K hK => ?_
  unfold Oper.wp
  have hrun := run_sub_to t e ht i hi' hs ao n cap h h2 w
  simp [execOp, ho, hx, hhi, Instr.sliceAt, run_underlying ht, hrun, Result.andThen]
  exact hK _ _ hk
end

end Go.Proofs.Ytbdkiiaiadbmbaa
