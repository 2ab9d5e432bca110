/- Inside a fence: append of a slice of unknown origin, a slice expression up to hi; frames of what a round leaves. No program is named here. -/
import Derived.Test.YtbdkiiaiadbmbaaSub
import Derived.Test.YtbdkiiaiadbmbaaJoin
import Derived.OwnWalkIn
namespace Go.Proofs.Ytbdkiiaiadbmbaa
open Go.RowKit
set_option linter.unusedVariables false
set_option linter.unusedSimpArgs false

section
variable {F : Fence} {nF : Nat} {P : Program} {ops : Array Oper} {rest : List Oper} {o : Oper} {a : Act} {Q : Exit → Act → World → Prop} {w : World}
theorem wpListIn_append_sl (hgd : o.guard = none) (s x : Operand) (t : TypeId)
    (ho : o.op = .call { callee := .builtin .append, args := #[s, x], argTypes := #[t, t] })
    (base : Nat) (e : TypeId) (i : TypeInfo) (z : Value) (bytes : Nat) (ht : P.underlying t = some (.slice e)) (hi : P.info? e = some i) (hz : i.zero = some z)
    (hsize : i.size = 1) (hby : i.bytes = bytes) (hzs : z.cells.size = 1)
    (v : Value) (n : Nat) (xs : List Value) (hs : a.eval s = v) (hown : w.ownsRow base e 1 v n xs)
    (B : Nat) (sv : Value) (news : List Value) (hx : a.eval x = sv) (hsl : Sl B w sv news) (h1 : ∀ u ∈ news, u.oneCell' = true)
    (h63 : n + news.length ≤ maxLen) (hbytes : (n + news.length) * bytes ≤ 140737488355328) (hbase : base ≤ w.heap.size)
    (h : ∀ v' w', w'.ownsRow base e 1 v' (n + news.length) (xs ++ news) → w.grownBy w' v.ownBlock → wpListIn F nF P ops Q rest (a.put o.dst v') w') : wpListIn F nF P ops Q (o :: rest) a w := by
  obtain ⟨ao, cap, rfl, hc, hn, hcell⟩ := hsl
  cases ao with
  | none =>
    obtain rfl := hn rfl
    have h0 : news = [] := List.eq_nil_of_length_eq_zero (by omega)
    subst h0
    refine wpListIn_plain hgd fun K hK => ?_
    have hrun := run_append_owned_none (P := P) w base t o.type e i 1 ht hi v n xs hown
    simp only [List.length_nil] at hx
    unfold Oper.wpIn
    refine ⟨?_, ?_⟩
    · simp [Oper.about, ho, resolve, Target.leads, Sem.run_pure]
    · rw [Oper.semAt_plain F _ _ (by rw [ho]; intro c hc'; cases hc')]
      simp [execOp, ho, resolve, invoke, builtin, hs, hx, hrun, Result.andThen]
      exact hK _ _ (h v w (by simpa using hown) (World.grownBy.refl _ _))
  | some ad =>
    refine wpListIn_append_own w hgd s x t ho base e i z 1 bytes ht hi hz hsize hby hzs (by decide) v n xs hs hown ad news.length cap news hx (by simp) ?_ h1 h63 hbytes hbase (fun v' w' g1 g2 _ => h v' w' g1 g2)
    intro j u hj
    obtain ⟨b, off, ha, _, hr⟩ := hcell (by have := (List.getElem?_eq_some_iff.1 hj).1; omega)
    cases ha
    rw [Addr.add_lit]
    exact hr j u hj
theorem wpListIn_sub_to (hgd : o.guard = none) (t : TypeId) (x hi : Operand) (ho : o.op = .slice t x none (some hi) none) (e : TypeId) (ht : P.underlying t = some (.slice e)) (i : TypeInfo) (hi' : P.info? e = some i) (hs : P.cellsOf e = 1)
    (ao : Option Addr) (n cap h : Nat) (hx : a.eval x = .slice ao n cap) (hhi : a.eval hi = .int .i64 (h : Int)) (h2 : h ≤ cap) (hk : wpListIn F nF P ops Q rest (a.put o.dst (.slice ao h cap)) w) : wpListIn F nF P ops Q (o :: rest) a w := by
  refine wpListIn_plain hgd fun K hK => ?_
  have hrun := run_sub_to t e ht i hi' hs ao n cap h h2 w
  unfold Oper.wpIn
  refine ⟨?_, ?_⟩
  · simp [Oper.about, ho]
  · rw [Oper.semAt_plain F _ _ (by rw [ho]; intro c hc'; cases hc')]
    simp [execOp, ho, hx, hhi, Instr.sliceAt, run_underlying ht, hrun, Result.andThen]
    exact hK _ _ hk
end

theorem frm_oth {S : Nat → Prop} {w w' : World} (h : Frm S w w') (hS : ∀ i, S i → ∃ c e f, w.heap[i]? = some (.cells c e f)) : KeepsOthers w w' :=
  ⟨h.size, fun k o hk ho => by
    have hl := (Array.getElem?_eq_some_iff.1 hk).1
    rw [h.block k hl (fun hs => by
      obtain ⟨c, e, f, he⟩ := hS k hs
      rw [he] at hk; cases hk
      simp [Obj.isCells] at ho)]
    exact hk⟩
theorem block_gr {A B : World} {row : Option Nat} {D : Nat} {c : Array Value} {e : TypeId} {f : Nat × Nat} (h : A.heap[D]? = some (.cells c e f)) (hg : A.grownBy B row) (hr : ∀ r, row = some r → ∃ ob : Obj, A.heap[r]? = some ob ∧ ob.isCells = false) : B.heap[D]? = A.heap[D]? :=
  hg.block D (Array.getElem?_eq_some_iff.1 h).1 (fun e' => by
    obtain ⟨ob, h1, h2⟩ := hr D e'.symm
    rw [h] at h1; cases h1
    simp [Obj.isCells] at h2)
theorem owns_gr {A B : World} {row : Option Nat} {base : Nat} {e : TypeId} {size n : Nat} {v : Value} {cs : List Value} (h : A.ownsRow base e size v n cs) (hg : A.grownBy B row) (hr : ∀ r, row = some r → ∃ ob : Obj, A.heap[r]? = some ob ∧ ob.isCells = false) : B.ownsRow base e size v n cs :=
  h.kept hg (by
    cases hv : v.ownBlock with
    | none => exact .inl rfl
    | some g =>
      refine .inr fun e => ?_
      obtain ⟨ob, h1, h2⟩ := hr g (by rw [← e])
      obtain ⟨c, hc⟩ := owns_type h g hv
      rw [hc] at h1; cases h1
      simp [Obj.isCells] at h2)
theorem boxed_gr {A B : World} {row : Option Nat} {b : Nat} {t : TypeId} {v : Value} (h : Boxed A b t v) (hg : A.grownBy B row) (hr : ∀ r, row = some r → ∃ ob : Obj, A.heap[r]? = some ob ∧ ob.isCells = false) : Boxed B b t v :=
  boxed_own (β := Unit) b t (fun _ => v) () A B row h hg hr
theorem frm_gr {S : Nat → Prop} {w A B : World} {row : Option Nat} (h : Frm S w A) (hg : A.grownBy B row) (hr : ∀ r, row = some r → w.heap.size ≤ r) : Frm S w B :=
  ⟨hg.os.trans h.os, hg.tape.trans h.tape, hg.output.trans h.output, Nat.le_trans h.size hg.size, fun k hk hs => (hg.block k (Nat.lt_of_lt_of_le hk h.size) (fun e => by have := hr k e.symm; omega)).trans (h.block k hk hs)⟩

theorem slI_upto {k : IntKind} {B : Nat} {w : World} {ao : Option Addr} {n cap : Nat} {xs : List Int} (h : SlI k B w (.slice ao n cap) xs) {m : Nat} (hm : m ≤ xs.length) : SlI k B w (.slice ao m cap) (xs.take m) := by
  obtain ⟨ao', cap', he, q1, q2, q3⟩ := h
  injection he with e1 e2 e3
  subst e1 e3
  have hl : (xs.take m).length = m := by simp; omega
  refine ⟨ao, cap, by rw [hl], by omega, fun e => ?_, fun h0 => ?_⟩
  · have := q2 e; omega
  · obtain ⟨b, off, ha, hbl, hrn⟩ := q3 (by omega)
    exact ⟨b, off, ha, hbl, hrn.take m⟩

theorem grownBy_tr {a b c : World} {row : Option Nat} (h : a.grownBy b row) (k : b.grownBy c row) : a.grownBy c row :=
  ⟨k.os.trans h.os, k.tape.trans h.tape, k.output.trans h.output, Nat.le_trans h.size k.size, fun i hi hr => (k.block i (Nat.lt_of_lt_of_le hi h.size) hr).trans (h.block i hi hr)⟩

theorem own_ne2 {v u : Value} {a b c d : Nat} (hv : ∀ k, v.ownBlock = some k → a ≤ k ∧ k < b) (hu : ∀ k, u.ownBlock = some k → c ≤ k ∧ k < d) (h : d ≤ a) : v.ownBlock = none ∨ v.ownBlock ≠ u.ownBlock := by
  cases hvb : v.ownBlock with
  | none => exact .inl rfl
  | some k =>
    refine .inr fun e => ?_
    have h1 := hv k hvb
    have h2 := hu k e.symm
    omega

end Go.Proofs.Ytbdkiiaiadbmbaa
