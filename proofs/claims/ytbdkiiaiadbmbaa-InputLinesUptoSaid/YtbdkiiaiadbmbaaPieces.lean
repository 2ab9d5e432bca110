/- sieveref01.Pieces: the pieces of bytes, in new memory. -/
import Derived.Test.YtbdkiiaiadbmbaaRefB
import Derived.Test.YtbdkiiaiadbmbaaSl
namespace Go.Proofs.Ytbdkiiaiadbmbaa
open Go.RowKit
set_option linter.unusedVariables false
set_option linter.unusedSimpArgs false

theorem Try.infoPiece : (Try.prog.info? 68).map (fun i => (i.zero, i.size, i.bytes)) = some (some (.agg #[.int .i32 0, .int .i64 0, .int .i64 0, .bool false]), 4, 32) := by kernel_rfl

def encPc (c : Pc) : List Value := [.int .i32 c.r, .int .i64 (c.pos : Int), .int .i64 (c.n : Int), .bool (decide (c.what = 0))]
def encPcs (l : List Pc) : List Value := l.flatMap encPc
theorem encPcs_length (l : List Pc) : (encPcs l).length = l.length * 4 := by
  induction l with
  | nil => rfl
  | cons c l ih => simp only [encPcs, List.flatMap_cons, List.length_append, List.length_cons] at ih ⊢; rw [ih]; simp [encPc]; omega
theorem encPcs_snoc (l : List Pc) (c : Pc) : encPcs (l ++ [c]) = encPcs l ++ encPc c := by simp [encPcs]

/-- the cells of a new block -/
theorem cells_news (w : World) (news : List Value) (e : TypeId) : ∀ j u, news[j]? = some u → (w.alloc (.cells news.toArray e)).cell? ((⟨w.heap.size, 0, none⟩ : Addr).add j) = some u := by
  intro j u hj
  rw [Addr.add_lit, World.cell?_alloc_at _ _ _ _ rfl]
  simpa using hj

theorem ownsRow_drew {w w' : World} {base : Nat} {e : TypeId} {size : Nat} {v : Value} {n : Nat} {cs : List Value} (h : w.ownsRow base e size v n cs) (hd : Drew w w') : w'.ownsRow base e size v n cs := by
  obtain ⟨q, rfl⟩ := hd; exact h

/-- a cell of a block that was laid ahead of what was appended -/
theorem cell_behind {w2 w3 : World} {cs : Array Value} {e E : TypeId} {o : Obj} {base size : Nat} {v : Value} {n : Nat} {xs : List Value}
    (hgrow : ((w2.alloc (.cells cs e)).alloc o).grownBy w3 v.ownBlock) (hown : w2.ownsRow base E size v n xs) (j : Nat) {u : Value} (hj : cs[j]? = some u) : w3.cell? ⟨w2.heap.size, j, none⟩ = some u := by
  refine hgrow.cell ?_ ?_
  · rw [World.cell?_alloc_past _ _ _ (by simp), World.cell?_alloc_at _ _ _ _ rfl]; exact hj
  · intro h
    have := (hown.lt _ h.symm).2
    simp at this
theorem below_pc {w w2 w3 : World} {cs : Array Value} {e E : TypeId} {o : Obj} {size : Nat} {v : Value} {n : Nat} {xs : List Value}
    (hb : Below w.heap.size w w2) (hgrow : ((w2.alloc (.cells cs e)).alloc o).grownBy w3 v.ownBlock) (hown : w2.ownsRow w.heap.size E size v n xs) : Below w.heap.size w w3 :=
  (((hb.alloc hb.size _).alloc (by simp; have := hb.size; omega) _)).grown hgrow (by simp; have := hb.size; omega) (fun k hk => (hown.lt k hk).1)

set_option maxHeartbeats 2000000 in
theorem pieces_any (B : Nat) (v : Value) (xs : List Int) (w : World) (hs : SlI .u8 B w v xs) (hB : B ≤ w.heap.size) (hb : Byt xs) (hx : xs.length ≤ 1099511627776) :
    Calls Try.prog 35 #[v] w fun e w' => ∃ u, e = .returned u ∧ w'.ownsRow w.heap.size 68 4 u (pcs xs).length (encPcs (pcs xs)) ∧ Below w.heap.size w w' := by
  obtain ⟨i0, hi, hz0, hz1, hz2⟩ := info_parts Try.infoPiece
  obtain ⟨ao, cap, rfl, hc, hn, hr⟩ := hs
  go_enter Try.func35, Try.ntmps35
  go_wp2
  go_loopw [3, 4] (fun u i wr => ∃ (p : Nat) (pre : List Pc), i = .int .i64 p ∧ p ≤ xs.length ∧ pre.length ≤ p ∧ pcs xs = pre ++ pcsAt xs p ∧ wr.ownsRow w.heap.size 68 4 u pre.length (encPcs pre) ∧ Below w.heap.size w wr) (fun _ i _ => xs.length - (intOf i).toNat)
  case atStart => exact ⟨0, [], rfl, Nat.zero_le _, Nat.le_refl _, rfl, World.ownsRow_nil _ _ _ _, Below.refl _ _⟩
  case round =>
    obtain ⟨p, pre, rfl, hp, hpl, hpre, hown, hBw⟩ := hrel
    by_cases hlt : p < xs.length
    · obtain ⟨b, off, rfl, hbn, hrun⟩ := hr (by omega)
      have hl : 0 < (xs.drop p).length := by simp; omega
      have hsz := rd_size (xs.drop p) hl
      have hlen : (xs.drop p).length = xs.length - p := by simp
      have hrun2 : Run .u8 wr b (off + p) (xs.drop p) := (hrun.below hBw (by omega)).drop p
      have hgood := refgood_any b (off + p) (cap - p) (xs.drop p) wr hrun2 (hb.drop p) (by omega) hl
      rw [hlen] at hgood
      obtain ⟨c, hc0⟩ := get_of_lt (xs.drop p) hl
      obtain ⟨c0, c1⟩ := hb.drop p 0 c hc0
      have hcc := hrun2 0 c hc0
      rw [pcsAt_cons xs p hlt] at hpre
      obtain ⟨h1n, hnl, hn4, h5n, h6n⟩ := hsz
      rw [hlen] at hnl
      clear h5n h6n
      by_cases hK : goodK (xs.drop p) = 0
      · obtain ⟨hrd, hA⟩ := goodK_zero hl hK
        rw [hrd] at hpre h1n hnl hn4
        rw [hK, hA] at hgood
        have HG := Lib.hid hgood
        have HP := Lib.hid hpre
        have HO := Lib.hid hown
        clear hgood hpre hrd hA hK hlen hl hc0 hown h1n hnl hn4
        go_wp2_with (first
          | (go_at_call 41; refine HG.out.mono ?_; rintro e w2 ⟨rfl, hd⟩; have HO2 := Lib.hid (ownsRow_drew HO.out hd); have hB2 := hBw.trans (hd.below _))
          | (at_builtin; refine wpList_append_own _ rfl _ _ 65 rfl w.heap.size 68 i0 (.agg #[.int .i32 0, .int .i64 0, .int .i64 0, .bool false]) 4 32 Try.underlying65 hi hz0 hz1 hz2 rfl (by decide) _ pre.length (encPcs pre) rfl ((HO2.out.alloc _).alloc _) ⟨w2.heap.size + 1, 0, none⟩ 1 1 [.int .i32 65533, .int .i64 (p : Int), .int .i64 1, .bool false] rfl rfl ?c1 ?c2 ?c3 ?c4 ?c5 ?_))
        case c1 => intro j u hj; simpa using cells_news (w2.alloc _) _ _ j u hj
        case c2 => intro u hu; simp at hu; rcases hu with rfl | rfl | rfl | rfl <;> rfl
        case c3 => unfold maxLen; omega
        case c4 => omega
        case c5 => have := hB2.size; simp; omega
        intro v' w3 hown' hgrow _
        have hB3 := below_pc hB2 hgrow HO2.out
        have hc3 := cell_behind hgrow HO2.out 2 (u := .int .i64 1) (by rfl)
        have HO3 := Lib.hid hown'
        clear hown' hgrow
        go_wp2
        go_roundw
        case rel =>
          refine ⟨p + 1, pre ++ [⟨65533, p, 1, 1⟩], by go_num, by omega, by simp; omega, by rw [HP.out]; simp, ?_, hB3⟩
          have h := HO3.out
          rw [encPcs_snoc]
          simpa [encPc] using h
        case measure => simp [intOf]; omega
      · have hK2 := goodK_pos hK
        cases hA : goodA (xs.drop p)
        · have hrdr := rd_wrong hl hA
          have hwt : ¬ (rd (xs.drop p)).2.2 = 0 := by simpa [goodA] using hA
          rw [hK2, hA] at hgood
          have HG := Lib.hid hgood
          have HO := Lib.hid hown
          clear hgood hA hlen hl hc0 hown hK hK2
          generalize rd (xs.drop p) = T at *
          obtain ⟨r, k, wt⟩ := T
          simp only at *
          subst hrdr
          have HP := Lib.hid hpre
          have HW := Lib.hid hwt
          have hk0 : ((k : Int) == 0) = false := beq_eq_false_iff_ne.2 (by omega)
          clear hpre hwt
          go_wp2_with (first
            | (go_at_call 41; refine HG.out.mono ?_; rintro e w2 ⟨rfl, hd⟩; have HO2 := Lib.hid (ownsRow_drew HO.out hd); have hB2 := hBw.trans (hd.below _))
            | (at_builtin; refine wpList_append_own _ rfl _ _ 65 rfl w.heap.size 68 i0 (.agg #[.int .i32 0, .int .i64 0, .int .i64 0, .bool false]) 4 32 Try.underlying65 hi hz0 hz1 hz2 rfl (by decide) _ pre.length (encPcs pre) rfl ((HO2.out.alloc _).alloc _) ⟨w2.heap.size + 1, 0, none⟩ 1 1 [.int .i32 65533, .int .i64 (p : Int), .int .i64 (k : Int), .bool false] rfl rfl ?c1 ?c2 ?c3 ?c4 ?c5 ?_))
          case c1 => intro j u hj; simpa using cells_news (w2.alloc _) _ _ j u hj
          case c2 => intro u hu; simp at hu; rcases hu with rfl | rfl | rfl | rfl <;> rfl
          case c3 => unfold maxLen; omega
          case c4 => omega
          case c5 => have := hB2.size; simp; omega
          intro v' w3 hown' hgrow _
          have hB3 := below_pc hB2 hgrow HO2.out
          have hc3 := cell_behind hgrow HO2.out 2 (u := .int .i64 (k : Int)) (by rfl)
          have HO3 := Lib.hid hown'
          clear hown' hgrow
          go_wp2
          go_roundw
          case rel =>
            refine ⟨p + k, pre ++ [⟨65533, p, k, wt⟩], by go_num, by omega, by simp; omega, by rw [HP.out]; simp, ?_, hB3⟩
            have h := HO3.out
            rw [encPcs_snoc]
            have hw := HW.out
            simpa [encPc, hw] using h
          case measure => simp [intOf]; omega
        · have hright := rd_right hc0 hA
          rw [hK2, hA] at hgood
          have HO := Lib.hid hown
          clear hA hlen hl hown hK hK2
          rcases hright with ⟨c8, hrd⟩ | ⟨y1, c8, hm, hy1, hrd⟩ | ⟨y1, y2, c8, hm, hy1, hy2, hrd⟩ | ⟨y1, y2, y3, c8, hm, hy1, hy2, hy3, hrd⟩
          · rw [hrd] at hpre hgood h1n hnl hn4
            have HG := Lib.hid hgood
            have HP := Lib.hid hpre
            clear hgood hpre hrd h1n hn4
            clear hc0
            simp only at hnl
            go_wp2_with (go_at_call 41; refine HG.out.mono ?_; rintro e w2 ⟨rfl, hd⟩; have HO2 := Lib.hid (ownsRow_drew HO.out hd); have hB2 := hBw.trans (hd.below _); have hbw2 : b < w2.heap.size := Nat.lt_of_lt_of_le (Nat.lt_of_lt_of_le hbn hB) hB2.size; have hcc2 := (hd.cell _).trans hcc; simp only [Nat.add_zero] at hcc2)
            refine wp_loop_rounds 1 ?_
            rw [rounds_succ]
            go_wp2_with (at_builtin; refine wpList_append_own _ rfl _ _ 65 rfl w.heap.size 68 i0 (.agg #[.int .i32 0, .int .i64 0, .int .i64 0, .bool false]) 4 32 Try.underlying65 hi hz0 hz1 hz2 rfl (by decide) _ pre.length (encPcs pre) rfl ((HO2.out.alloc _).alloc _) ⟨w2.heap.size + 1, 0, none⟩ 1 1 [.int .i32 c, .int .i64 (p : Int), .int .i64 1, .bool true] rfl rfl ?c1 ?c2 ?c3 ?c4 ?c5 ?_)
            case c1 => intro j u hj; simpa using cells_news (w2.alloc _) _ _ j u hj
            case c2 => intro u hu; simp at hu; rcases hu with rfl | rfl | rfl | rfl <;> rfl
            case c3 => unfold maxLen; omega
            case c4 => omega
            case c5 => have := hB2.size; simp; omega
            intro v' w3 hown' hgrow _
            have hB3 := below_pc hB2 hgrow HO2.out
            have hc3 := cell_behind hgrow HO2.out 2 (u := .int .i64 1) (by rfl)
            have HO3 := Lib.hid hown'
            clear hown' hgrow
            go_wp2
            go_roundw
            case rel =>
              refine ⟨p + 1, pre ++ [⟨c, p, 1, 0⟩], by go_num, by omega, by simp; omega, by rw [HP.out]; simp, ?_, hB3⟩
              have h := HO3.out
              rw [encPcs_snoc]
              simpa [encPc] using h
            case measure => simp [intOf]; omega
          · rw [hrd] at hpre hgood h1n hnl hn4
            have HG := Lib.hid hgood
            have HP := Lib.hid hpre
            clear hgood hpre hrd h1n hn4
            clear hm
            have hcy1 := hrun2 1 y1 hy1
            obtain ⟨y10, y11⟩ := hb.drop p 1 y1 hy1
            clear hy1
            clear hc0
            simp only at hnl
            go_wp2_with (go_at_call 41; refine HG.out.mono ?_; rintro e w2 ⟨rfl, hd⟩; have HO2 := Lib.hid (ownsRow_drew HO.out hd); have hB2 := hBw.trans (hd.below _); have hbw2 : b < w2.heap.size := Nat.lt_of_lt_of_le (Nat.lt_of_lt_of_le hbn hB) hB2.size; have hcc2 := (hd.cell _).trans hcc; simp only [Nat.add_zero] at hcc2; have hcz1 := (hd.cell _).trans hcy1; rw [Nat.add_assoc] at hcz1)
            refine wp_loop_rounds 2 ?_
            rw [rounds_succ]
            go_wp2
            rw [rounds_succ]
            go_wp2_with (at_builtin; refine wpList_append_own _ rfl _ _ 65 rfl w.heap.size 68 i0 (.agg #[.int .i32 0, .int .i64 0, .int .i64 0, .bool false]) 4 32 Try.underlying65 hi hz0 hz1 hz2 rfl (by decide) _ pre.length (encPcs pre) rfl ((HO2.out.alloc _).alloc _) ⟨w2.heap.size + 1, 0, none⟩ 1 1 [.int .i32 (c % 32 * 64 + y1 % 64), .int .i64 (p : Int), .int .i64 2, .bool true] rfl rfl ?c1 ?c2 ?c3 ?c4 ?c5 ?_)
            case c1 => intro j u hj; simpa using cells_news (w2.alloc _) _ _ j u hj
            case c2 => intro u hu; simp at hu; rcases hu with rfl | rfl | rfl | rfl <;> rfl
            case c3 => unfold maxLen; omega
            case c4 => omega
            case c5 => have := hB2.size; simp; omega
            intro v' w3 hown' hgrow _
            have hB3 := below_pc hB2 hgrow HO2.out
            have hc3 := cell_behind hgrow HO2.out 2 (u := .int .i64 2) (by rfl)
            have HO3 := Lib.hid hown'
            clear hown' hgrow
            go_wp2
            go_roundw
            case rel =>
              refine ⟨p + 2, pre ++ [⟨(c % 32 * 64 + y1 % 64), p, 2, 0⟩], by go_num, by omega, by simp; omega, by rw [HP.out]; simp, ?_, hB3⟩
              have h := HO3.out
              rw [encPcs_snoc]
              simpa [encPc] using h
            case measure => simp [intOf]; omega
          · rw [hrd] at hpre hgood h1n hnl hn4
            have HG := Lib.hid hgood
            have HP := Lib.hid hpre
            clear hgood hpre hrd h1n hn4
            clear hm
            have hcy1 := hrun2 1 y1 hy1
            obtain ⟨y10, y11⟩ := hb.drop p 1 y1 hy1
            have hcy2 := hrun2 2 y2 hy2
            obtain ⟨y20, y21⟩ := hb.drop p 2 y2 hy2
            clear hy1 hy2
            clear hc0
            simp only at hnl
            go_wp2_with (go_at_call 41; refine HG.out.mono ?_; rintro e w2 ⟨rfl, hd⟩; have HO2 := Lib.hid (ownsRow_drew HO.out hd); have hB2 := hBw.trans (hd.below _); have hbw2 : b < w2.heap.size := Nat.lt_of_lt_of_le (Nat.lt_of_lt_of_le hbn hB) hB2.size; have hcc2 := (hd.cell _).trans hcc; simp only [Nat.add_zero] at hcc2; have hcz1 := (hd.cell _).trans hcy1; rw [Nat.add_assoc] at hcz1; have hcz2 := (hd.cell _).trans hcy2; rw [Nat.add_assoc] at hcz2)
            refine wp_loop_rounds 3 ?_
            rw [rounds_succ]
            go_wp2
            rw [rounds_succ]
            go_wp2
            rw [rounds_succ]
            go_wp2_with (at_builtin; refine wpList_append_own _ rfl _ _ 65 rfl w.heap.size 68 i0 (.agg #[.int .i32 0, .int .i64 0, .int .i64 0, .bool false]) 4 32 Try.underlying65 hi hz0 hz1 hz2 rfl (by decide) _ pre.length (encPcs pre) rfl ((HO2.out.alloc _).alloc _) ⟨w2.heap.size + 1, 0, none⟩ 1 1 [.int .i32 ((c % 16 * 64 + y1 % 64) * 64 + y2 % 64), .int .i64 (p : Int), .int .i64 3, .bool true] rfl rfl ?c1 ?c2 ?c3 ?c4 ?c5 ?_)
            case c1 => intro j u hj; simpa using cells_news (w2.alloc _) _ _ j u hj
            case c2 => intro u hu; simp at hu; rcases hu with rfl | rfl | rfl | rfl <;> rfl
            case c3 => unfold maxLen; omega
            case c4 => omega
            case c5 => have := hB2.size; simp; omega
            intro v' w3 hown' hgrow _
            have hB3 := below_pc hB2 hgrow HO2.out
            have hc3 := cell_behind hgrow HO2.out 2 (u := .int .i64 3) (by rfl)
            have HO3 := Lib.hid hown'
            clear hown' hgrow
            go_wp2
            go_roundw
            case rel =>
              refine ⟨p + 3, pre ++ [⟨((c % 16 * 64 + y1 % 64) * 64 + y2 % 64), p, 3, 0⟩], by go_num, by omega, by simp; omega, by rw [HP.out]; simp, ?_, hB3⟩
              have h := HO3.out
              rw [encPcs_snoc]
              simpa [encPc] using h
            case measure => simp [intOf]; omega
          · rw [hrd] at hpre hgood h1n hnl hn4
            have HG := Lib.hid hgood
            have HP := Lib.hid hpre
            clear hgood hpre hrd h1n hn4
            clear hm
            have hcy1 := hrun2 1 y1 hy1
            obtain ⟨y10, y11⟩ := hb.drop p 1 y1 hy1
            have hcy2 := hrun2 2 y2 hy2
            obtain ⟨y20, y21⟩ := hb.drop p 2 y2 hy2
            have hcy3 := hrun2 3 y3 hy3
            obtain ⟨y30, y31⟩ := hb.drop p 3 y3 hy3
            clear hy1 hy2 hy3
            clear hc0
            simp only at hnl
            go_wp2_with (go_at_call 41; refine HG.out.mono ?_; rintro e w2 ⟨rfl, hd⟩; have HO2 := Lib.hid (ownsRow_drew HO.out hd); have hB2 := hBw.trans (hd.below _); have hbw2 : b < w2.heap.size := Nat.lt_of_lt_of_le (Nat.lt_of_lt_of_le hbn hB) hB2.size; have hcc2 := (hd.cell _).trans hcc; simp only [Nat.add_zero] at hcc2; have hcz1 := (hd.cell _).trans hcy1; rw [Nat.add_assoc] at hcz1; have hcz2 := (hd.cell _).trans hcy2; rw [Nat.add_assoc] at hcz2; have hcz3 := (hd.cell _).trans hcy3; rw [Nat.add_assoc] at hcz3)
            refine wp_loop_rounds 4 ?_
            rw [rounds_succ]
            go_wp2
            rw [rounds_succ]
            go_wp2
            rw [rounds_succ]
            go_wp2
            rw [rounds_succ]
            go_wp2_with (at_builtin; refine wpList_append_own _ rfl _ _ 65 rfl w.heap.size 68 i0 (.agg #[.int .i32 0, .int .i64 0, .int .i64 0, .bool false]) 4 32 Try.underlying65 hi hz0 hz1 hz2 rfl (by decide) _ pre.length (encPcs pre) rfl ((HO2.out.alloc _).alloc _) ⟨w2.heap.size + 1, 0, none⟩ 1 1 [.int .i32 (((c % 8 * 64 + y1 % 64) * 64 + y2 % 64) * 64 + y3 % 64), .int .i64 (p : Int), .int .i64 4, .bool true] rfl rfl ?c1 ?c2 ?c3 ?c4 ?c5 ?_)
            case c1 => intro j u hj; simpa using cells_news (w2.alloc _) _ _ j u hj
            case c2 => intro u hu; simp at hu; rcases hu with rfl | rfl | rfl | rfl <;> rfl
            case c3 => unfold maxLen; omega
            case c4 => omega
            case c5 => have := hB2.size; simp; omega
            intro v' w3 hown' hgrow _
            have hB3 := below_pc hB2 hgrow HO2.out
            have hc3 := cell_behind hgrow HO2.out 2 (u := .int .i64 4) (by rfl)
            have HO3 := Lib.hid hown'
            clear hown' hgrow
            go_wp2
            go_roundw
            case rel =>
              refine ⟨p + 4, pre ++ [⟨(((c % 8 * 64 + y1 % 64) * 64 + y2 % 64) * 64 + y3 % 64), p, 4, 0⟩], by go_num, by omega, by simp; omega, by rw [HP.out]; simp, ?_, hB3⟩
              have h := HO3.out
              rw [encPcs_snoc]
              simpa [encPc] using h
            case measure => simp [intOf]; omega
    · obtain rfl : p = xs.length := by omega
      rw [pcsAt_end _ _ (Nat.le_refl _), List.append_nil] at hpre
      have HP := Lib.hid hpre
      clear hpre
      go_wp2
      go_ret
      exact ⟨_, rfl, by rw [HP.out]; exact hown, hBw⟩

end Go.Proofs.Ytbdkiiaiadbmbaa
