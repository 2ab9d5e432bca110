/- sieveref01.Cuts: pieces of bytes, each in new memory. -/
import Derived.Test.YtbdkiiaiadbmbaaSub
import Derived.Test.YtbdkiiaiadbmbaaBytes
namespace Go.Proofs.Ytbdkiiaiadbmbaa
open Go.RowKit
set_option linter.unusedVariables false
set_option linter.unusedSimpArgs false

theorem Try.infoBytes : (Try.prog.info? 25).map (fun i => (i.zero, i.size, i.bytes)) = some (some (.slice none 0 0), 1, 24) := by kernel_rfl

theorem frm_grown {w w' : World} {v : Value} (h : w.grownBy w' v.ownBlock) : Frm (fun i => v.ownBlock = some i) w w' := Frm.of_grown h (fun k e => e)

/-- the pieces: values, and what they hold -/
def Held (B : Nat) (w : World) (L : List (Value × List Int)) : Prop := ∀ p ∈ L, w.ownsRow B 5 1 p.1 p.2.length (p.2.map (Value.int .u8))
theorem Held.frm {S : Nat → Prop} {B : Nat} {w w' : World} {L : List (Value × List Int)} (h : Held B w L) (hf : Frm S w w') (hS : ∀ p ∈ L, ∀ k, p.1.ownBlock = some k → ¬ S k) : Held B w' L :=
  fun p hp => ownsRow_frm (h p hp) hf (hS p hp)

theorem take_drop_join (xs : List Int) {p q : Nat} (h : p ≤ q) : xs.take p ++ (xs.take q).drop p = xs.take q := by
  have h2 : xs.take p = (xs.take q).take p := by rw [List.take_take]; congr 1; omega
  rw [h2, List.take_append_drop]
/-- one more piece, in memory of its own; the list of pieces has grown -/
theorem held_grow {w wr w2 w3 : World} {u : Value} {L : List (Value × List Int)} {g n : Nat} {ys : List Int} {o : Obj} {cs : List Value} {n' : Nat}
    (hH : Held w.heap.size wr L) (hb : Below wr.heap.size wr w2) (hown : w2.ownsRow w.heap.size 25 1 u n' cs) (hc : w2.ownsRow wr.heap.size 5 1 (.slice (some ⟨g, 0, none⟩) n n) ys.length (ys.map (Value.int .u8))) (hw : w.heap.size ≤ wr.heap.size)
    (hgrow : (w2.alloc o).grownBy w3 u.ownBlock) : Held w.heap.size w3 (L ++ [(.slice (some ⟨g, 0, none⟩) n n, ys)]) := by
  have hf : Frm (fun i => u.ownBlock = some i) w2 w3 := (Frm.of_below ((Below.refl w2.heap.size w2).alloc (Nat.le_refl _) o)).trans (frm_grown hgrow) (fun _ _ h => h)
  intro p hp
  rcases List.mem_append.1 hp with hp | hp
  · have h2 := ownsRow_below (hH p hp) hb (Nat.le_refl _)
    exact ownsRow_frm h2 hf (fun k hk hu => owns_apart h2 hown (by decide) k hk hu)
  · simp at hp
    subst hp
    have h2 := ownsRow_base hc hw
    exact ownsRow_frm h2 hf (fun k hk hu => owns_apart h2 hown (by decide) k hk hu)

set_option maxHeartbeats 4000000 in
theorem cuts_any (B : Nat) (v cv : Value) (xs cs : List Int) (w : World) (hs : SlI .u8 B w v xs) (hcs : SlI .i64 B w cv cs) (hB : B ≤ w.heap.size) (hx : xs.length ≤ 1099511627776) (hcl : cs.length ≤ 1073741824) :
    Calls Try.prog 25 #[v, cv] w fun e w' => ∃ u L, e = .returned u ∧ w'.ownsRow w.heap.size 25 1 u L.length (L.map Prod.fst) ∧ Held w.heap.size w' L ∧ (L.map Prod.snd).flatten = xs ∧ L.length ≤ cs.length + 1 ∧ Below w.heap.size w w' := by
  obtain ⟨i0, hi, hz0, hz1, hz2⟩ := info_parts Try.infoBytes
  obtain ⟨i1, hi1, hy0, hy1, hy2⟩ := info_parts Try.infoU8b
  obtain ⟨ao, cap, rfl, hc, hn, hr⟩ := hs
  obtain ⟨co, ccap, rfl, hcc, hcn, hcr⟩ := hcs
  have hsl0 : SlI .u8 B w (.slice ao xs.length cap) xs := ⟨ao, cap, rfl, hc, hn, hr⟩
  have hce : Try.prog.cellsOf 5 = 1 := by kernel_rfl
  go_enter Try.func25, Try.ntmps25
  go_wp2
  go_loopw [5, 6, 11] (fun u f i wr => ∃ (k : Nat) (L : List (Value × List Int)) (p : Nat), i = .int .i64 k ∧ k ≤ cs.length ∧ f = .int .i64 p ∧ p ≤ xs.length ∧ L.length ≤ k ∧ (L.map Prod.snd).flatten = xs.take p ∧ wr.ownsRow w.heap.size 25 1 u L.length (L.map Prod.fst) ∧ Held w.heap.size wr L ∧ Below w.heap.size w wr) (fun _ _ i _ => cs.length - (intOf i).toNat)
  case atStart => exact ⟨0, [], 0, rfl, Nat.zero_le _, rfl, Nat.zero_le _, Nat.le_refl _, by simp, World.ownsRow_nil _ _ _ _, (fun p hp => by cases hp), Below.refl _ _⟩
  case round =>
    obtain ⟨k, L, p, rfl, hk, rfl, hp, hLk, hfl, hown, hH, hBw⟩ := hrel
    by_cases hkn : k < cs.length
    · obtain ⟨b, off, rfl, hlt, hrun⟩ := hcr (by omega)
      obtain ⟨c, hxk⟩ := get_of_lt cs hkn
      have hcx : wr.cell? ⟨b, off + k, none⟩ = some (.int .i64 c) := (hBw.cell (p := ⟨b, off + k, none⟩) (by show b < w.heap.size; omega)).trans (hrun k c hxk)
      clear hxk
      rcases (show c < (p : Int) ∨ ((p : Int) ≤ c ∧ (xs.length : Int) < c) ∨ ((p : Int) ≤ c ∧ c ≤ (xs.length : Int)) from by omega) with h1 | ⟨h1, h2⟩ | ⟨h1, h2⟩
      · skip
        have hsub := fun w0 => run_sub (P := Try.prog) 25 5 Try.underlying25 i1 hi1 hce ao xs.length cap p p (by omega) (by omega) w0
        have hsl := slI_sub (hsl0.below hBw hB) (lo := p) (hi := p) (by omega) (by omega)
        have hyl : ((xs.take (p)).drop p).length ≤ 1099511627776 := by rw [List.length_drop, List.length_take]; omega
        have hfl2 : ((L ++ [(Value.slice (some ⟨wr.heap.size, 0, none⟩) ((xs.take (p)).drop p).length ((xs.take (p)).drop p).length, (xs.take (p)).drop p)]).map Prod.snd).flatten = xs.take (p) := by simp [hfl, take_drop_join xs (show p ≤ p from by omega)]
        have HF := Lib.hid hfl2
        have HO := Lib.hid hown
        generalize hys : (xs.take (p)).drop p = ys at *
        generalize hsv : subV ao cap p _ = sv at *
        clear hsl0 hfl hfl2 hown hys hsv hr
        go_wp2_with (first
          | (go_at_call 40; refine (copy_any B _ ys _ hsl (by have := hBw.size; omega) (by omega)).mono ?_; rintro e w2 ⟨rfl, hownc, hbc⟩; have HO2 := Lib.hid (ownsRow_below HO.out hbc (Nat.le_refl _)); have HC := Lib.hid hownc; have hB2 := hBw.trans (hbc.mono hBw.size); have HH2 := Lib.hid (hH); clear hH hownc)
          | (at_builtin; refine wpList_append_own _ rfl _ _ 53 rfl w.heap.size 25 i0 (.slice none 0 0) 1 24 Try.underlying53 hi hz0 hz1 hz2 rfl (by decide) _ _ _ rfl (HO2.out.alloc _) ⟨w2.heap.size, 0, none⟩ 1 1 [.slice (some ⟨wr.heap.size, 0, none⟩) ys.length ys.length] rfl rfl ?c1a ?c2a ?c3a ?c4a ?c5a ?_))
        try (case c1a => exact cells_news _ _ _)
        case c2a => first | rfl | (intro u hu; simp at hu; subst hu; rfl)
        case c3a => unfold maxLen; omega
        case c4a => omega
        case c5a => have := hB2.size; simp; omega
        intro v' w3 hown3 hgrow3 _
        have hB3 : Below w.heap.size w w3 := (hB2.alloc hB2.size _).grown hgrow3 (by have := hB2.size; simp; omega) (ownBlock_lt HO2.out)
        have HH3 := Lib.hid (held_grow HH2.out hbc HO2.out HC.out hBw.size hgrow3)
        have HO3 := Lib.hid hown3
        clear hown3 hgrow3 hbc
        go_wp2
        go_roundw
        case rel => exact ⟨k + 1, L ++ [(.slice (some ⟨wr.heap.size, 0, none⟩) ys.length ys.length, ys)], p, by go_num, by omega, by go_num, by omega, by simp; omega, HF.out, by simpa using HO3.out, HH3.out, hB3⟩
        case measure => simp [intOf]; omega
      · skip
        have hsub := fun w0 => run_sub (P := Try.prog) 25 5 Try.underlying25 i1 hi1 hce ao xs.length cap p xs.length (by omega) (by omega) w0
        have hsl := slI_sub (hsl0.below hBw hB) (lo := p) (hi := xs.length) (by omega) (by omega)
        have hyl : ((xs.take (xs.length)).drop p).length ≤ 1099511627776 := by rw [List.length_drop, List.length_take]; omega
        have hfl2 : ((L ++ [(Value.slice (some ⟨wr.heap.size, 0, none⟩) ((xs.take (xs.length)).drop p).length ((xs.take (xs.length)).drop p).length, (xs.take (xs.length)).drop p)]).map Prod.snd).flatten = xs.take (xs.length) := by simp [hfl, take_drop_join xs (show p ≤ xs.length from by omega)]
        have HF := Lib.hid hfl2
        have HO := Lib.hid hown
        generalize hys : (xs.take (xs.length)).drop p = ys at *
        generalize hsv : subV ao cap p _ = sv at *
        clear hsl0 hfl hfl2 hown hys hsv hr
        go_wp2_with (first
          | (go_at_call 40; refine (copy_any B _ ys _ hsl (by have := hBw.size; omega) (by omega)).mono ?_; rintro e w2 ⟨rfl, hownc, hbc⟩; have HO2 := Lib.hid (ownsRow_below HO.out hbc (Nat.le_refl _)); have HC := Lib.hid hownc; have hB2 := hBw.trans (hbc.mono hBw.size); have HH2 := Lib.hid (hH); clear hH hownc)
          | (at_builtin; refine wpList_append_own _ rfl _ _ 53 rfl w.heap.size 25 i0 (.slice none 0 0) 1 24 Try.underlying53 hi hz0 hz1 hz2 rfl (by decide) _ _ _ rfl (HO2.out.alloc _) ⟨w2.heap.size, 0, none⟩ 1 1 [.slice (some ⟨wr.heap.size, 0, none⟩) ys.length ys.length] rfl rfl ?c1b ?c2b ?c3b ?c4b ?c5b ?_))
        try (case c1b => exact cells_news _ _ _)
        case c2b => first | rfl | (intro u hu; simp at hu; subst hu; rfl)
        case c3b => unfold maxLen; omega
        case c4b => omega
        case c5b => have := hB2.size; simp; omega
        intro v' w3 hown3 hgrow3 _
        have hB3 : Below w.heap.size w w3 := (hB2.alloc hB2.size _).grown hgrow3 (by have := hB2.size; simp; omega) (ownBlock_lt HO2.out)
        have HH3 := Lib.hid (held_grow HH2.out hbc HO2.out HC.out hBw.size hgrow3)
        have HO3 := Lib.hid hown3
        clear hown3 hgrow3 hbc
        go_wp2
        go_roundw
        case rel => exact ⟨k + 1, L ++ [(.slice (some ⟨wr.heap.size, 0, none⟩) ys.length ys.length, ys)], xs.length, by go_num, by omega, by go_num, by omega, by simp; omega, HF.out, by simpa using HO3.out, HH3.out, hB3⟩
        case measure => simp [intOf]; omega
      · obtain ⟨q, rfl⟩ : ∃ q : Nat, c = (q : Int) := ⟨c.toNat, by omega⟩
        have hsub := fun w0 => run_sub (P := Try.prog) 25 5 Try.underlying25 i1 hi1 hce ao xs.length cap p q (by omega) (by omega) w0
        have hsl := slI_sub (hsl0.below hBw hB) (lo := p) (hi := q) (by omega) (by omega)
        have hyl : ((xs.take (q)).drop p).length ≤ 1099511627776 := by rw [List.length_drop, List.length_take]; omega
        have hfl2 : ((L ++ [(Value.slice (some ⟨wr.heap.size, 0, none⟩) ((xs.take (q)).drop p).length ((xs.take (q)).drop p).length, (xs.take (q)).drop p)]).map Prod.snd).flatten = xs.take (q) := by simp [hfl, take_drop_join xs (show p ≤ q from by omega)]
        have HF := Lib.hid hfl2
        have HO := Lib.hid hown
        generalize hys : (xs.take (q)).drop p = ys at *
        generalize hsv : subV ao cap p _ = sv at *
        clear hsl0 hfl hfl2 hown hys hsv hr
        go_wp2_with (first
          | (go_at_call 40; refine (copy_any B _ ys _ hsl (by have := hBw.size; omega) (by omega)).mono ?_; rintro e w2 ⟨rfl, hownc, hbc⟩; have HO2 := Lib.hid (ownsRow_below HO.out hbc (Nat.le_refl _)); have HC := Lib.hid hownc; have hB2 := hBw.trans (hbc.mono hBw.size); have HH2 := Lib.hid (hH); clear hH hownc)
          | (at_builtin; refine wpList_append_own _ rfl _ _ 53 rfl w.heap.size 25 i0 (.slice none 0 0) 1 24 Try.underlying53 hi hz0 hz1 hz2 rfl (by decide) _ _ _ rfl (HO2.out.alloc _) ⟨w2.heap.size, 0, none⟩ 1 1 [.slice (some ⟨wr.heap.size, 0, none⟩) ys.length ys.length] rfl rfl ?c1c ?c2c ?c3c ?c4c ?c5c ?_))
        try (case c1c => exact cells_news _ _ _)
        case c2c => first | rfl | (intro u hu; simp at hu; subst hu; rfl)
        case c3c => unfold maxLen; omega
        case c4c => omega
        case c5c => have := hB2.size; simp; omega
        intro v' w3 hown3 hgrow3 _
        have hB3 : Below w.heap.size w w3 := (hB2.alloc hB2.size _).grown hgrow3 (by have := hB2.size; simp; omega) (ownBlock_lt HO2.out)
        have HH3 := Lib.hid (held_grow HH2.out hbc HO2.out HC.out hBw.size hgrow3)
        have HO3 := Lib.hid hown3
        clear hown3 hgrow3 hbc
        go_wp2
        go_roundw
        case rel => exact ⟨k + 1, L ++ [(.slice (some ⟨wr.heap.size, 0, none⟩) ys.length ys.length, ys)], q, by go_num, by omega, by go_num, by omega, by simp; omega, HF.out, by simpa using HO3.out, HH3.out, hB3⟩
        case measure => simp [intOf]; omega
    · obtain rfl : k = cs.length := by omega
      have hsub := fun w0 => run_sub_from (P := Try.prog) 25 5 Try.underlying25 i1 hi1 hce ao xs.length cap p (by omega) w0
      have hsl := slI_sub (hsl0.below hBw hB) (lo := p) (hi := xs.length) (by omega) (by omega)
      have hyl : ((xs.take (xs.length)).drop p).length ≤ 1099511627776 := by rw [List.length_drop, List.length_take]; omega
      have hfl2 : ((L ++ [(Value.slice (some ⟨wr.heap.size, 0, none⟩) ((xs.take (xs.length)).drop p).length ((xs.take (xs.length)).drop p).length, (xs.take (xs.length)).drop p)]).map Prod.snd).flatten = xs.take (xs.length) := by simp [hfl, take_drop_join xs (show p ≤ xs.length from by omega)]
      have HF := Lib.hid hfl2
      have HO := Lib.hid hown
      generalize hys : (xs.take (xs.length)).drop p = ys at *
      generalize hsv : subV ao cap p _ = sv at *
      clear hsl0 hfl hfl2 hown hys hsv hr
      go_wp2_with (first
        | (go_at_call 40; refine (copy_any B _ ys _ hsl (by have := hBw.size; omega) (by omega)).mono ?_; rintro e w2 ⟨rfl, hownc, hbc⟩; have HO2 := Lib.hid (ownsRow_below HO.out hbc (Nat.le_refl _)); have HC := Lib.hid hownc; have hB2 := hBw.trans (hbc.mono hBw.size); have HH2 := Lib.hid (hH); clear hH hownc)
        | (at_builtin; refine wpList_append_own _ rfl _ _ 53 rfl w.heap.size 25 i0 (.slice none 0 0) 1 24 Try.underlying53 hi hz0 hz1 hz2 rfl (by decide) _ _ _ rfl (HO2.out.alloc _) ⟨w2.heap.size, 0, none⟩ 1 1 [.slice (some ⟨wr.heap.size, 0, none⟩) ys.length ys.length] rfl rfl ?c1d ?c2d ?c3d ?c4d ?c5d ?_))
      try (case c1d => exact cells_news _ _ _)
      case c2d => first | rfl | (intro u hu; simp at hu; subst hu; rfl)
      case c3d => unfold maxLen; omega
      case c4d => omega
      case c5d => have := hB2.size; simp; omega
      intro v' w3 hown3 hgrow3 _
      have hB3 : Below w.heap.size w w3 := (hB2.alloc hB2.size _).grown hgrow3 (by have := hB2.size; simp; omega) (ownBlock_lt HO2.out)
      have HH3 := Lib.hid (held_grow HH2.out hbc HO2.out HC.out hBw.size hgrow3)
      have HO3 := Lib.hid hown3
      clear hown3 hgrow3 hbc
      go_wp2
      go_ret
      exact ⟨_, _, rfl, by simpa using HO3.out, HH3.out, by rw [HF.out, List.take_length], by simp; omega, hB3⟩

end Go.Proofs.Ytbdkiiaiadbmbaa
