/- Pieces one behind the other; append of cells; sievelaw03.held, crAhead. -/
import Derived.Test.YtbdkiiaiadbmbaaStream
import Derived.Test.YtbdkiiaiadbmbaaCuts
import Derived.Test.YtbdkiiaiadbmbaaMisc
namespace Go.Proofs.Ytbdkiiaiadbmbaa
open Go.RowKit
set_option linter.unusedVariables false
set_option linter.unusedSimpArgs false

def fed (L : List (Value × List Int)) (k : Nat) : List Int := ((L.take k).map Prod.snd).flatten
theorem fed_succ {L : List (Value × List Int)} {k : Nat} {p : Value × List Int} (h : L[k]? = some p) : fed L (k + 1) = fed L k ++ p.2 := by
  unfold fed
  rw [List.take_add_one, h]
  simp
theorem fed_all (L : List (Value × List Int)) : fed L L.length = (L.map Prod.snd).flatten := by simp [fed]
theorem fed_pre (L : List (Value × List Int)) (k : Nat) : ∃ r, fed L k ++ r = (L.map Prod.snd).flatten := by
  refine ⟨((L.drop k).map Prod.snd).flatten, ?_⟩
  unfold fed
  rw [← List.flatten_append, ← List.map_append, List.take_append_drop]
theorem byt_left {a b : List Int} (h : Byt (a ++ b)) : Byt a := by
  intro j x hj
  exact h j x (by rw [List.getElem?_append_left (List.getElem?_eq_some_iff.1 hj).1]; exact hj)
theorem byt_right {a b : List Int} (h : Byt (a ++ b)) : Byt b := by
  intro j x hj
  exact h (a.length + j) x (by rw [List.getElem?_append_right (by omega), show a.length + j - a.length = j from by omega]; exact hj)
theorem byt_drop {a : List Int} (h : Byt a) (n : Nat) : Byt (a.drop n) := by
  have : Byt (a.take n ++ a.drop n) := by rw [List.take_append_drop]; exact h
  exact byt_right this

theorem slI_frmB {S : Nat → Prop} {k : IntKind} {B : Nat} {w w' : World} {v : Value} {xs : List Int} (h : SlI k B w v xs) (hf : Frm S w w') (hB : B ≤ w.heap.size) (hS : ∀ i, i < B → ¬ S i) : SlI k B w' v xs := by
  obtain ⟨ao, cap, rfl, hc, hn, hr⟩ := h
  refine ⟨ao, cap, rfl, hc, hn, fun h0 => ?_⟩
  obtain ⟨b, off, rfl, hlt, hrun⟩ := hr h0
  refine ⟨b, off, rfl, hlt, fun j x hj => ?_⟩
  rw [hf.cell (p := ⟨b, off + j, none⟩) (by show b < _; omega) (hS b hlt)]
  exact hrun j x hj

section
variable {P : Program} {ops : Array Oper} {rest : List Oper} {o : Oper} {a : Act} {Q : Exit → Act → World → Prop} {w : World}
theorem wpList_append_row (hgd : o.guard = none) (s x : Operand) (t : TypeId)
    (ho : o.op = .call { callee := .builtin .append, args := #[s, x], argTypes := #[t, t] })
    (base : Nat) (e : TypeId) (i : TypeInfo) (z : Value) (size bytes : Nat) (ht : P.underlying t = some (.slice e)) (hi : P.info? e = some i) (hz : i.zero = some z)
    (hsize : i.size = size) (hby : i.bytes = bytes) (hzs : z.cells.size = size) (hsz : 0 < size)
    (v : Value) (n : Nat) (xs : List Value) (hs : a.eval s = v) (hown : w.ownsRow base e size v n xs)
    (b2 : Nat) (sv : Value) (m : Nat) (news : List Value) (hx : a.eval x = sv) (hsl : w.ownsRow b2 e size sv m news) (hln : news.length = m * size) (h1 : ∀ u ∈ news, u.oneCell' = true)
    (h63 : n + m ≤ maxLen) (hbytes : (n + m) * bytes ≤ 140737488355328) (hbase : base ≤ w.heap.size)
    (h : ∀ v' w', w'.ownsRow base e size v' (n + m) (xs ++ news) → w.grownBy w' v.ownBlock → wpList P ops Q rest (a.put o.dst v') w') : wpList P ops Q (o :: rest) a w := by
  obtain ⟨ao, cap, rfl, hc, hn, hr⟩ := owns_shape hsl
  cases ao with
  | none =>
    obtain rfl := hn rfl
    obtain rfl : m = 0 := by omega
    have h0 : news = [] := List.eq_nil_of_length_eq_zero (by omega)
    subst h0
    refine wpList_plain hgd fun K hK => ?_
    have hrun := run_append_owned_none (P := P) w base t o.type e i size ht hi v n xs hown
    unfold Oper.wp
    simp [execOp, ho, resolve, invoke, builtin, hs, hx, hrun, Result.andThen]
    exact hK _ _ (h v w (by simpa using hown) (World.grownBy.refl _ _))
  | some ad =>
    refine wpList_append_own w hgd s x t ho base e i z size bytes ht hi hz hsize hby hzs hsz v n xs hs hown ad m cap news hx hln ?_ h1 h63 hbytes hbase (fun v' w' g1 g2 _ => h v' w' g1 g2)
    intro j u hj
    have hjl := (List.getElem?_eq_some_iff.1 hj).1
    have hm : 0 < m := by
      rcases Nat.eq_zero_or_pos m with h | h
      · subst h; simp at hln; subst hln; simp at hjl
      · exact h
    obtain ⟨g, ha, _, _, hg⟩ := hr hm
    cases ha
    rw [Addr.add_lit, Nat.zero_add]
    exact hg j u hj
end
theorem encKs_one (l : List Cl) : ∀ u ∈ encKs l, u.oneCell' = true := by
  intro u hu
  simp only [encKs, List.mem_flatMap] at hu
  obtain ⟨c, _, hc⟩ := hu
  simp [encK] at hc
  rcases hc with rfl | rfl | rfl | rfl <;> rfl
theorem encKs_append (a b : List Cl) : encKs (a ++ b) = encKs a ++ encKs b := by simp [encKs]

/-- what the law holds back -/
def heldN (F : List Int) : Nat := if tailOf F = 0 ∧ 0 < F.length ∧ F[F.length - 1]? = some 13 then 1 else tailOf F
def crB (F : List Int) (n : Nat) : Bool := decide (0 < n ∧ n < F.length ∧ F[F.length - n - 1]? = some 13)
theorem held_sure (F : List Int) : F.length - (if crB F (tailOf F) = true then tailOf F + 1 else heldN F) = sureOf false F ∧ (if crB F (tailOf F) = true then tailOf F + 1 else heldN F) ≤ F.length := by
  have htl := tail_le F
  unfold crB heldN sureOf
  simp only [Bool.false_eq_true, if_false, decide_eq_true_eq]
  by_cases h0 : tailOf F = 0
  · rw [if_neg (by omega), h0, Nat.sub_zero]
    by_cases h1 : 0 < F.length ∧ F[F.length - 1]? = some 13
    · rw [if_pos ⟨rfl, h1⟩, if_pos h1]; omega
    · rw [if_neg (fun h => h1 h.2), if_neg (by simpa using h1)]; omega
  · by_cases h1 : tailOf F < F.length ∧ F[F.length - tailOf F - 1]? = some 13
    · rw [if_pos ⟨by omega, h1⟩, if_pos ⟨by omega, h1.2⟩]; omega
    · rw [if_neg (fun h => h1 h.2), if_neg (fun h => h0 h.1), if_neg (fun h => h1 ⟨by omega, h.2⟩)]; omega

set_option maxHeartbeats 1000000 in
theorem heldL_any (B : Nat) (v : Value) (F : List Int) (w : World) (hs : SlI .u8 B w v F) (hB : B ≤ w.heap.size) (hb : Byt F) (hx : F.length ≤ 1099511627776) :
    Calls Try.prog 26 #[v] w fun e w' => e = .returned (.int .i64 (heldN F : Nat)) ∧ Below w.heap.size w w' := by
  obtain ⟨N, hN⟩ : ∃ N, heldN F = N := ⟨_, rfl⟩
  rw [hN]
  have hs' := hs
  obtain ⟨ao, cap, rfl, hcap, hao, hrun⟩ := hs'
  have htl := tail_le F
  have hrt := reftail_any B _ F w hs hB hb hx
  unfold heldN at hN
  have hcs : (0 < tailOf F ∧ N = tailOf F) ∨ (tailOf F = 0 ∧ F.length = 0 ∧ N = 0) ∨ (tailOf F = 0 ∧ ∃ m c, F.length = m + 1 ∧ F[m]? = some c ∧ ((c = 13 ∧ N = 1) ∨ (c ≠ 13 ∧ N = 0))) := by
    rcases Nat.eq_zero_or_pos (tailOf F) with h0 | h0
    · rcases Nat.eq_zero_or_pos F.length with h1 | h1
      · right; left
        rw [if_neg (by omega)] at hN
        exact ⟨h0, h1, by omega⟩
      · right; right
        obtain ⟨c, hc⟩ := get_of_lt F (show F.length - 1 < F.length by omega)
        refine ⟨h0, F.length - 1, c, by omega, hc, ?_⟩
        by_cases h13 : c = 13
        · rw [if_pos ⟨h0, h1, by rw [hc, h13]⟩] at hN; exact .inl ⟨h13, hN.symm⟩
        · rw [if_neg (by rintro ⟨_, _, h⟩; rw [hc] at h; injection h with h; exact h13 h)] at hN; exact .inr ⟨h13, by omega⟩
    · left
      rw [if_neg (by omega)] at hN
      exact ⟨h0, hN.symm⟩
  clear hN
  have HRT := Lib.hid hrt
  clear hrt
  rcases hcs with ⟨h0, rfl⟩ | ⟨h0, h1, rfl⟩ | ⟨h0, m, c, hm, hgc, h⟩
  · have hb1 : ((tailOf F : Int) == 0) = false := by simp; omega
    generalize tailOf F = t at *
    clear hrun
    go_enter Try.func26, Try.ntmps26
    go_wp2_with fail
    refine HRT.out.mono ?_
    rintro e w2 ⟨rfl, hb2⟩
    go_wp2_with fail
    go_ret
    exact ⟨rfl, hb2⟩
  · rw [h0] at HRT
    obtain rfl : F = [] := List.eq_nil_of_length_eq_zero h1
    clear hrun
    go_enter Try.func26, Try.ntmps26
    go_wp2_with fail
    refine HRT.out.mono ?_
    rintro e w2 ⟨rfl, hb2⟩
    go_wp2_with fail
    go_ret
    exact ⟨rfl, hb2⟩
  · rw [h0] at HRT
    obtain ⟨b, off, rfl, hbl, hr⟩ := hrun (by omega)
    have hcc := hr m c hgc
    have e1 : IntKind.i64.wrap ((F.length : Int) - 1) = (m : Int) := by rw [IntWalk.i64_in _ (by omega)]; omega
    have hml : m < F.length := by omega
    have hpos : 0 < F.length := by omega
    have HGC := Lib.hid hgc
    clear hrun hr hgc hm
    rcases h with ⟨rfl, rfl⟩ | ⟨h13, rfl⟩
    · go_enter Try.func26, Try.ntmps26
      go_wp2_with fail
      refine HRT.out.mono ?_
      rintro e w2 ⟨rfl, hb2⟩
      have hcc2 := (hb2.cell (p := ⟨b, off + m, none⟩) (by show b < w.heap.size; omega)).trans hcc
      go_wp2_with fail
      go_ret
      exact ⟨rfl, hb2⟩
    · have hb13 : (c == 13) = false := by simp [h13]
      go_enter Try.func26, Try.ntmps26
      go_wp2_with fail
      refine HRT.out.mono ?_
      rintro e w2 ⟨rfl, hb2⟩
      have hcc2 := (hb2.cell (p := ⟨b, off + m, none⟩) (by show b < w.heap.size; omega)).trans hcc
      go_wp2_with fail
      go_ret
      exact ⟨rfl, hb2⟩

set_option maxHeartbeats 1000000 in
theorem crAhead_any (B : Nat) (v : Value) (F : List Int) (n : Nat) (w : World) (hs : SlI .u8 B w v F) (hx : F.length ≤ 1099511627776) (hn : n ≤ F.length) :
    Calls Try.prog 27 #[v, .int .i64 (n : Int)] w fun e w' => e = .returned (.bool (crB F n)) ∧ w = w' := by
  obtain ⟨K, hK⟩ : ∃ K, crB F n = K := ⟨_, rfl⟩
  rw [hK]
  obtain ⟨ao, cap, rfl, hcap, hao, hrun⟩ := hs
  unfold crB at hK
  rcases Nat.eq_zero_or_pos n with h0 | h0
  · rw [decide_eq_false (by omega)] at hK
    subst hK h0
    clear hrun
    go_enter Try.func27, Try.ntmps27
    go_wp2_with fail
    go_ret
    exact ⟨rfl, rfl⟩
  · by_cases h1 : n < F.length
    · obtain ⟨c, hc⟩ := get_of_lt F (show F.length - n - 1 < F.length by omega)
      obtain ⟨b, off, rfl, hbl, hr⟩ := hrun (by omega)
      obtain ⟨m, hm⟩ : ∃ m, F.length - n - 1 = m := ⟨_, rfl⟩
      rw [hm] at hc hK
      have hcc := hr m c hc
      rw [hc] at hK
      have e1 : IntKind.i64.wrap ((F.length : Int) - (n : Int)) = ((m + 1 : Nat) : Int) := by rw [IntWalk.i64_in _ (by omega)]; omega
      have e2 : IntKind.i64.wrap (((m + 1 : Nat) : Int) - 1) = (m : Int) := by rw [IntWalk.i64_in _ (by omega)]; omega
      have hml : m < F.length := by omega
      have hKc : K = (c == 13) := by rw [← hK]; by_cases h13 : c = 13 <;> simp [h13, h0, h1]
      subst hKc
      generalize hm1 : m + 1 = m1 at *
      have HM1 := Lib.hid hm1
      have HM := Lib.hid hm
      have HC := Lib.hid hc
      clear hK hrun hr hc hm hm1
      go_enter Try.func27, Try.ntmps27
      go_wp2_with fail
      go_ret
      exact ⟨rfl, rfl⟩
    · rw [decide_eq_false (by omega)] at hK
      subst hK
      obtain rfl : n = F.length := by omega
      clear hrun
      go_enter Try.func27, Try.ntmps27
      go_wp2_with fail
      go_ret
      exact ⟨rfl, rfl⟩

end Go.Proofs.Ytbdkiiaiadbmbaa
