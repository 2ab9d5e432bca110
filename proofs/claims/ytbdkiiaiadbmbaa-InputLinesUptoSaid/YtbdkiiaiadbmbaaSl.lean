/- Slices that read as a list of numbers; rows that a call owns. No program is named here. -/
import Derived.Test.YtbdkiiaiadbmbaaBase
import Derived.Laws.AppendOwnNone
namespace Go.Proofs.Ytbdkiiaiadbmbaa
open Go.RowKit
set_option linter.unusedVariables false
set_option linter.unusedSimpArgs false

/-- The slice value v reads, in world w, as the cells cs (each element one cell), which lie in a block below B. -/
def Sl (B : Nat) (w : World) (v : Value) (cs : List Value) : Prop :=
  ∃ ao cap, v = .slice ao cs.length cap ∧ cs.length ≤ cap ∧ (ao = none → cap = 0) ∧
    (0 < cs.length → ∃ b off, ao = some ⟨b, off, none⟩ ∧ b < B ∧ ∀ (j : Nat) c, cs[j]? = some c → w.cell? ⟨b, off + j, none⟩ = some c)

/-- .. as numbers of kind k. -/
def SlI (k : IntKind) (B : Nat) (w : World) (v : Value) (xs : List Int) : Prop :=
  ∃ ao cap, v = .slice ao xs.length cap ∧ xs.length ≤ cap ∧ (ao = none → cap = 0) ∧
    (0 < xs.length → ∃ b off, ao = some ⟨b, off, none⟩ ∧ b < B ∧ Run k w b off xs)

theorem Sl.below {B C : Nat} {w w' : World} {v : Value} {cs : List Value} (h : Sl B w v cs) (hb : Below C w w') (hBC : B ≤ C) : Sl B w' v cs := by
  obtain ⟨ao, cap, hv, hc, hn, h⟩ := h
  refine ⟨ao, cap, hv, hc, hn, fun hp => ?_⟩
  obtain ⟨b, off, ha, hlt, hcell⟩ := h hp
  exact ⟨b, off, ha, hlt, fun j c hj => (hb.cell (p := ⟨b, off + j, none⟩) (by show b < C; omega)).trans (hcell j c hj)⟩
theorem SlI.below {k : IntKind} {B C : Nat} {w w' : World} {v : Value} {xs : List Int} (h : SlI k B w v xs) (hb : Below C w w') (hBC : B ≤ C) : SlI k B w' v xs := by
  obtain ⟨ao, cap, hv, hc, hn, h⟩ := h
  refine ⟨ao, cap, hv, hc, hn, fun hp => ?_⟩
  obtain ⟨b, off, ha, hlt, hcell⟩ := h hp
  exact ⟨b, off, ha, hlt, hcell.below hb (by omega)⟩
theorem Sl.mono {B C : Nat} {w : World} {v : Value} {cs : List Value} (h : Sl B w v cs) (hBC : B ≤ C) : Sl C w v cs := by
  obtain ⟨ao, cap, hv, hc, hn, h⟩ := h
  exact ⟨ao, cap, hv, hc, hn, fun hp => let ⟨b, off, ha, hlt, r⟩ := h hp; ⟨b, off, ha, by omega, r⟩⟩
theorem SlI.mono {k : IntKind} {B C : Nat} {w : World} {v : Value} {xs : List Int} (h : SlI k B w v xs) (hBC : B ≤ C) : SlI k C w v xs := by
  obtain ⟨ao, cap, hv, hc, hn, h⟩ := h
  exact ⟨ao, cap, hv, hc, hn, fun hp => let ⟨b, off, ha, hlt, r⟩ := h hp; ⟨b, off, ha, by omega, r⟩⟩
theorem SlI.sl {k : IntKind} {B : Nat} {w : World} {v : Value} {xs : List Int} (h : SlI k B w v xs) : Sl B w v (xs.map (Value.int k)) := by
  obtain ⟨ao, cap, hv, hc, hn, h⟩ := h
  refine ⟨ao, cap, by simpa using hv, by simpa using hc, hn, fun hp => ?_⟩
  obtain ⟨b, off, ha, hlt, hr⟩ := h (by simpa using hp)
  refine ⟨b, off, ha, hlt, fun j c hj => ?_⟩
  simp only [List.getElem?_map, Option.map_eq_some_iff] at hj
  obtain ⟨x, hx, rfl⟩ := hj
  exact hr j x hx
theorem Sl.slI {k : IntKind} {B : Nat} {w : World} {v : Value} {xs : List Int} (h : Sl B w v (xs.map (Value.int k))) : SlI k B w v xs := by
  obtain ⟨ao, cap, hv, hc, hn, h⟩ := h
  refine ⟨ao, cap, by simpa using hv, by simpa using hc, hn, fun hp => ?_⟩
  obtain ⟨b, off, ha, hlt, hr⟩ := h (by simpa using hp)
  exact ⟨b, off, ha, hlt, fun j x hx => hr j _ (by simp [hx])⟩
theorem SlI.nil (k : IntKind) (B : Nat) (w : World) : SlI k B w (.slice none 0 0) [] := ⟨none, 0, rfl, by simp, fun _ => rfl, fun h => by simp at h⟩
theorem Sl.nil (B : Nat) (w : World) : Sl B w (.slice none 0 0) [] := ⟨none, 0, rfl, by simp, fun _ => rfl, fun h => by simp at h⟩
theorem SlI.run {k : IntKind} {B : Nat} {w : World} {b off cap : Nat} {xs : List Int} (hr : Run k w b off xs) (hb : b < B) (hc : xs.length ≤ cap) : SlI k B w (.slice (some ⟨b, off, none⟩) xs.length cap) xs :=
  ⟨_, cap, rfl, hc, (fun h => by cases h), fun _ => ⟨b, off, rfl, hb, hr⟩⟩

/-- What a call owns reads as what it owns. -/
theorem sl_of_owns {w : World} {base B : Nat} {e : TypeId} {v : Value} {n : Nat} {cs : List Value} (h : w.ownsRow base e 1 v n cs) (hB : w.heap.size ≤ B) : Sl B w v cs := by
  have hl : cs.length = n := by simpa using h.1
  rcases h.2 with ⟨rfl, rfl⟩ | ⟨g, cap, cur, rfl, hbg, hg, hnc, hcm, hcs, htake⟩
  · obtain rfl : cs = [] := List.eq_nil_of_length_eq_zero hl
    exact Sl.nil _ _
  · refine ⟨_, cap, by rw [hl], by omega, (fun h => by cases h), fun _ => ⟨g, 0, rfl, ?_, fun j c hj => ?_⟩⟩
    · have := (Array.getElem?_eq_some_iff.1 hg).1; omega
    · have := World.ownsRow.cells (g := g) h rfl j c hj
      rw [Addr.add_lit] at this
      exact this
theorem slI_of_owns {w : World} {base B : Nat} {e : TypeId} {k : IntKind} {v : Value} {n : Nat} {xs : List Int} (h : w.ownsRow base e 1 v n (xs.map (Value.int k))) (hB : w.heap.size ≤ B) : SlI k B w v xs := (sl_of_owns h hB).slI

theorem ownsRow_base {w : World} {B C : Nat} {e : TypeId} {size : Nat} {v : Value} {n : Nat} {cs : List Value} (h : w.ownsRow B e size v n cs) (hC : C ≤ B) : w.ownsRow C e size v n cs := by
  obtain ⟨h1, h2⟩ := h
  refine ⟨h1, ?_⟩
  rcases h2 with h2 | ⟨g, cap, cur, hv, hb, r⟩
  · exact .inl h2
  · exact .inr ⟨g, cap, cur, hv, by omega, r⟩
/-- What lies in blocks below B' stays owned where only blocks from B' on turn. -/
theorem ownsRow_below {w w' : World} {base C : Nat} {e : TypeId} {size : Nat} {v : Value} {n : Nat} {cs : List Value} (h : w.ownsRow base e size v n cs) (hb : Below C w w') (hC : w.heap.size ≤ C) : w'.ownsRow base e size v n cs := by
  obtain ⟨h1, h2⟩ := h
  refine ⟨h1, ?_⟩
  rcases h2 with h2 | ⟨g, cap, cur, hv, hbg, hg, r⟩
  · exact .inl h2
  · exact .inr ⟨g, cap, cur, hv, hbg, by rw [hb.block g (by have := (Array.getElem?_eq_some_iff.1 hg).1; omega)]; exact hg, r⟩
theorem ownsRow_drewN {w : World} {base : Nat} {e : TypeId} {size : Nat} {v : Value} {n : Nat} {cs : List Value} (h : w.ownsRow base e size v n cs) (q : Nat) : (w.drewN q).ownsRow base e size v n cs := h

/-- The shape of what is owned, and its cells. -/
theorem owns_shape {w : World} {base : Nat} {e : TypeId} {size : Nat} {v : Value} {n : Nat} {cs : List Value} (h : w.ownsRow base e size v n cs) :
    ∃ ao cap, v = .slice ao n cap ∧ n ≤ cap ∧ (ao = none → cap = 0) ∧ (0 < n → ∃ g, ao = some ⟨g, 0, none⟩ ∧ base ≤ g ∧ g < w.heap.size ∧ ∀ (j : Nat) c, cs[j]? = some c → w.cell? ⟨g, j, none⟩ = some c) := by
  rcases h.2 with ⟨rfl, rfl⟩ | ⟨g, cap, cur, rfl, hbg, hg, hnc, hcm, hcs, htake⟩
  · exact ⟨none, 0, rfl, Nat.le_refl _, fun _ => rfl, fun h => absurd h (by omega)⟩
  · refine ⟨some ⟨g, 0, none⟩, cap, rfl, hnc, fun h => by (cases h), fun _ => ⟨g, rfl, hbg, (Array.getElem?_eq_some_iff.1 hg).1, fun j c hj => ?_⟩⟩
    have := World.ownsRow.cells (g := g) h rfl j c hj
    rw [Addr.add_lit, Nat.zero_add] at this
    exact this

/-- append onto a row of the call's own, of whatever slice of one-cell elements (nil, empty or not). -/
theorem wpList_append_sl {P : Program} (w : World) {ops : Array Oper} {rest : List Oper} {o : Oper} {a : Act} {Q : Exit → Act → World → Prop} (hgd : o.guard = none) (s x : Operand) (t : TypeId)
    (ho : o.op = .call { callee := .builtin .append, args := #[s, x], argTypes := #[t, t] })
    (base : Nat) (e : TypeId) (i : TypeInfo) (z : Value) (bytes : Nat) (ht : P.underlying t = some (.slice e)) (hi : P.info? e = some i) (hz : i.zero = some z)
    (hsize : i.size = 1) (hby : i.bytes = bytes) (hzs : z.cells.size = 1)
    (v : Value) (n : Nat) (xs : List Value) (hs : a.eval s = v) (hown : w.ownsRow base e 1 v n xs)
    (B : Nat) (sv : Value) (news : List Value) (hx : a.eval x = sv) (hsl : Sl B w sv news) (h1 : ∀ u ∈ news, u.oneCell' = true)
    (h63 : n + news.length ≤ maxLen) (hbytes : (n + news.length) * bytes ≤ 140737488355328) (hbase : base ≤ w.heap.size)
    (h : ∀ v' w', w'.ownsRow base e 1 v' (n + news.length) (xs ++ news) → w.grownBy w' v.ownBlock → (v' = .slice none 0 0 ↔ v = .slice none 0 0 ∧ news = []) → wpList P ops Q rest (a.put o.dst v') w') : wpList P ops Q (o :: rest) a w := by
  obtain ⟨ao, cap, rfl, hc, hn, hcell⟩ := hsl
  cases ao with
  | none =>
    obtain rfl := hn rfl
    have h0 : news = [] := List.eq_nil_of_length_eq_zero (by omega)
    subst h0
    refine wpList_plain hgd fun K hK => ?_
    have hrun := run_append_owned_none (P := P) w base t o.type e i 1 ht hi v n xs hown
    unfold Oper.wp
    simp only [List.length_nil] at hx
    simp [execOp, ho, resolve, invoke, builtin, hs, hx, hrun, Result.andThen]
    refine hK _ _ (h v w (by simpa using hown) (World.grownBy.refl _ _) (by simp))
  | some ad =>
    refine wpList_append_own w hgd s x t ho base e i z 1 bytes ht hi hz hsize hby hzs (by decide) v n xs hs hown ad news.length cap news hx (by simp) ?_ h1 h63 hbytes hbase ?_
    · intro j u hj
      obtain ⟨b, off, ha, _, hr⟩ := hcell (by have := (List.getElem?_eq_some_iff.1 hj).1; omega)
      cases ha
      rw [Addr.add_lit]
      exact hr j u hj
    · intro v' w' g1 g2 g3
      refine h v' w' g1 g2 (g3.trans ?_)
      simp

/-- string(b) -/
theorem run_conv_sl {P : Program} {B : Nat} {w : World} {v : Value} {xs : List Int} (h : SlI .u8 B w v xs) (src dst e : TypeId) (hs : P.underlying src = some (.slice e)) (he : P.underlying e = some (.int .u8)) (hd : P.underlying dst = some .string) :
    (convert src dst v).run P w = .ok (.string (strOfNums xs)) w := by
  obtain ⟨ao, cap, rfl, hc, hn, hr⟩ := h
  cases ao with
  | none =>
    obtain rfl := hn rfl
    obtain rfl : xs = [] := List.eq_nil_of_length_eq_zero (by omega)
    exact run_convert_bytes_nil w src e hs he 0 0 dst hd
  | some a =>
    by_cases h0 : 0 < xs.length
    · obtain ⟨b, off, ha, _, hrun⟩ := hr h0
      cases ha
      refine run_convert_bytes_arg w src e hs he b off _ cap xs rfl (fun i hi => ?_) dst hd
      rw [hrun i xs[i] (List.getElem?_eq_getElem hi)]
      simp [List.getD, List.getElem?_eq_getElem hi]
    · obtain rfl : xs = [] := List.eq_nil_of_length_eq_zero (by omega)
      have hl : (loadCells a 0).run P w = .ok (([] : List Int).map (Value.int .u8)).toArray w := by
        have := run_loadCells_list (P := P) w a (([] : List Int).map (Value.int .u8)) (fun j v hj => by simp at hj)
        simpa using this
      rw [List.length_nil, run_convert_bytes_string w src dst e _ 0 cap hs he hd, run_bytesToString w _ 0 cap [] hl]
      rfl

theorem grown_below {w w' : World} {row : Option Nat} {B : Nat} (hg : w.grownBy w' row) (hB : B ≤ w.heap.size) (hr : ∀ k, row = some k → B ≤ k) : Below B w w' := (Below.refl B w).grown hg hB hr
theorem ownBlock_lt {w : World} {base : Nat} {e : TypeId} {size : Nat} {v : Value} {n : Nat} {cs : List Value} (h : w.ownsRow base e size v n cs) : ∀ k, v.ownBlock = some k → base ≤ k := fun k hk => (h.lt k hk).1

theorem set_mid {α : Type} (l : List α) (x y : α) (r : List α) : (l ++ x :: r).set l.length y = l ++ y :: r := by simp
theorem set_at {α : Type} (l : List α) (x y : α) (r : List α) (n : Nat) (h : l.length = n) : (l ++ x :: r).set n y = l ++ y :: r := by subst h; simp

end Go.Proofs.Ytbdkiiaiadbmbaa
