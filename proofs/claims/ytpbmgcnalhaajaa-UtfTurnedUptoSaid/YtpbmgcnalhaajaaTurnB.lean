/- utf.Back's iterator, for every loop body; utf.Cut and the reference's. -/
import Derived.Test.YtpbmgcnalhaajaaTurnA
import Derived.Test.YtpbmgcnalhaajaaUtfC
import Derived.Test.YtpbmgcnalhaajaaReads2
import Derived.Test.YtpbmgcnalhaajaaStep
namespace Go.Proofs.Ytpbmgcnalhaajaa
open Go.RowKit Go.Shelf
set_option linter.unusedVariables false
set_option linter.unusedSimpArgs false
attribute [local go_sem] Oper.semAt_some

def rprs (xs : List Int) : List (Nat × Int) := (prs xs).reverse

theorem yb {e : Ending} {A B : Prop} (h : (e = .returned (.bool true) ∧ A) ∨ (e = .returned (.bool false) ∧ B)) : ∃ b : Bool, e = .returned (.bool b) ∧ ((b = true ∧ A) ∨ (b = false ∧ B)) := by
  rcases h with ⟨rfl, h⟩ | ⟨rfl, h⟩
  · exact ⟨true, rfl, .inl ⟨rfl, h⟩⟩
  · exact ⟨false, rfl, .inr ⟨rfl, h⟩⟩

theorem take_rev {l : List (Nat × Int)} {m : Nat} {x : Nat × Int} (h : l[m]? = some x) : (l.take (m + 1)).reverse = x :: (l.take m).reverse := by
  rw [List.take_add_one, h]; simp

set_option maxRecDepth 100000 in
set_option maxHeartbeats 2000000 in
theorem back1_in (n : Nat) (hn : 1 ≤ n) (l Bx lo hi : Nat) (xs : List Int) (J Jx : List (Nat × Int) → World → Prop) (hx : xs.length ≤ 1099511627776) (hBx1 : lo ≤ Bx) (hBx : Bx < hi) (N₀ : Nat) (hJ : AbidesFrom N₀ J)
    (hY : ∀ pre x W, J pre W → pre.length < (prs xs).length → YieldAt Fence.wide (n - 1) Try.prog l (encPr x) W fun e W' =>
      (e = .returned (.bool true) ∧ J (pre ++ [x]) W' ∧ Keeps lo hi W W') ∨ (e = .returned (.bool false) ∧ Jx (pre ++ [x]) W'))
    (W : World) (hbx : BackBox W Bx lo hi xs) (h0 : J [] W) :
    CallsIn Fence.wide n Try.prog 52 #[.func (.yield l) #[] #[], .pointer (some ⟨Bx, 0, none⟩)] W fun e W' => (∃ v, e = .returned v) ∧
      ((∃ ys, ys = rprs xs ∧ J ys W') ∨ (∃ pre, pre <+: rprs xs ∧ Jx pre W')) := by
  have hlen := prs_length xs
  have hbx2 := hbx
  obtain ⟨ao, cap, hc, hcap, hr⟩ := hbx
  have HBX := Lib.hid hbx2
  clear hbx2 hr
  refine callsIn_of_wp Try.func52 rfl trivial ?_ rfl
  simp only [Try.ntmps52, List.size_toArray, List.length_cons, List.length_nil, Nat.reduceAdd, Nat.reduceSub, Array.replicate_succ, Array.replicate_zero, List.push_toArray, List.append_toArray, List.nil_append, List.cons_append]
  gi_wp2
  gi_loopw [3] (fun i wr => ∃ (k : Nat) (pre : List (Nat × Int)), i = .int .i64 ((k : Int) - 1) ∧ k ≤ (prs xs).length ∧ rprs xs = pre ++ ((prs xs).take k).reverse ∧ J pre wr ∧ Keeps lo hi W wr)
    (fun i _ => (intOf i + 1).toNat)
  case atStart => exact ⟨(prs xs).length, [], rfl, Nat.le_refl _, by rw [List.take_length]; rfl, h0, Keeps.refl _ _ _⟩
  case round =>
    obtain ⟨k, pre, rfl, hk, hpre, hJs, hnx⟩ := hrel
    have hbr := HBX.out.keeps hnx hBx1 hBx
    obtain ⟨ao2, cap2, hcr, hcapr, hrr⟩ := hbr
    cases k with
    | zero =>
      have hp : rprs xs = pre := by simpa using hpre
      have HP := Lib.hid hp
      clear hpre hp
      gi_wp2
      go_end0
      exact ⟨⟨_, rfl⟩, .inl ⟨_, rfl, by rw [HP.out]; exact hJs⟩⟩
    | succ m =>
      obtain ⟨g, rfl, g1, g2, hg⟩ := hrr (by omega)
      obtain ⟨x, hxm⟩ : ∃ x, (prs xs)[m]? = some x := ⟨_, List.getElem?_eq_getElem (by omega)⟩
      have hc0 : wr.cell? ⟨g, m * 2, none⟩ = some (.int .i64 (x.1 : Int)) := hg _ _ (by have := encQs_get hxm 0 (by omega); rw [Nat.add_zero] at this; rw [this]; rfl)
      have hc1 : wr.cell? ⟨g, m * 2 + 1, none⟩ = some (.int .i32 x.2) := hg _ _ (by rw [encQs_get hxm 1 (by omega)]; rfl)
      rw [take_rev hxm] at hpre
      have hlt : pre.length < (prs xs).length := by
        have := congrArg List.length hpre
        simp [rprs] at this; omega
      have hYd := hY pre x wr.drew (hJ pre wr wr.drew none hJs ⟨rfl, rfl, rfl, Nat.le_refl _, fun _ _ _ => rfl⟩ (fun r h => by cases h)) hlt
      have hpc : rprs xs = (pre ++ [x]) ++ ((prs xs).take m).reverse := by rw [hpre]; simp
      have HP := Lib.hid hpc
      obtain ⟨fn, tmps, assign, body, hy, hR⟩ := hYd
      simp only [encPr] at hy
      have HR := Lib.hid hR
      have HX := Lib.hid hxm
      clear hpre hpc hY hg hxm hR hJs hrr
      rw [show (((m + 1 : Nat) : Int) - 1) = (m : Int) from by omega]
      have hm : m + 1 ≤ (prs xs).length := hk
      have hfm : Try.prog.follows .mixedOrders = true := by kernel_rfl
      gi_wp2
      gi_region_with_o (refine HR.out.mono ?_; rintro e W3 H; obtain ⟨b, rfl, HH⟩ := yb H)
      all_goals
        rcases HH with ⟨rfl, hJ3, hk3⟩ | ⟨rfl, hJx3⟩
        · gi_wp2
          go_roundw
          case rel => exact ⟨m, _, by go_num, by omega, HP.out, hJ3, hnx.trans ((Keeps.drewN _ _ wr 1).trans hk3)⟩
          case measure => first | (simp [intOf]; done) | (simp [intOf]; omega)
        · gi_wp2
          refine bodyPost_ret (results_none rfl _ _ _) rfl ?_
          exact ⟨⟨_, rfl⟩, .inr ⟨_, ⟨_, HP.out.symm⟩, hJx3⟩⟩

/-- utf.Back's value, as a range over a function takes it. -/
theorem back_stops (n : Nat) (hn : 1 ≤ n) (Bx lo hi : Nat) (xs : List Int) (hx : xs.length ≤ 1099511627776) (w : World) (hBx1 : lo ≤ Bx) (hBx : Bx < hi) (hn0 : hi ≤ w.heap.size)
    (hbx : BackBox w Bx lo hi xs) :
    SeqStopsK Fence.wide n Try.prog 52 #[.pointer (some ⟨Bx, 0, none⟩)] encPr (Keeps lo hi) (fun ys => ys = rprs xs) (fun pre => pre <+: rprs xs) (prs xs).length w := fun l J Jx W hW hJ _ hY h0 =>
  back1_in n hn l Bx lo hi xs J Jx hx hBx1 hBx W.heap.size hJ hY W (hbx.keeps (Keeps.of_below hW hn0) hBx1 hBx) h0

end Go.Proofs.Ytpbmgcnalhaajaa
