/- markup.Scanner: its methods. -/
import Derived.Test.YtoccmpaonicnnaaMend
import Derived.Test.YtoccmpaonicnnaaScanP
import Derived.Test.YtoccmpaonicnnaaFrm
import Derived.IntWalk
namespace Go.Proofs.Ytoccmpaonicnnaa
open Go.RowKit
set_option linter.unusedVariables false
set_option linter.unusedSimpArgs false

/-- a scanner: its kind, its text, its tail, whether it is over -/
def ScAt (w : World) (D : Nat) (k : Int) (tv : Value) (t : Int) (o : Bool) : Prop := w.heap[D]? = some (.cells #[.int .i64 k, tv, .int .i64 t, .bool true, .bool o] 43)
section
variable {w w' : World} {D : Nat} {k : Int} {tv : Value} {t : Int} {o : Bool}
theorem ScAt.lt (h : ScAt w D k tv t o) : D < w.heap.size := (Array.getElem?_eq_some_iff.1 h).1
theorem ScAt.cells (h : ScAt w D k tv t o) :
    w.cell? ⟨D, 0, none⟩ = some (.int .i64 k) ∧ w.cell? ⟨D, 1, none⟩ = some tv ∧ w.cell? ⟨D, 2, none⟩ = some (.int .i64 t) ∧ w.cell? ⟨D, 3, none⟩ = some (.bool true) ∧ w.cell? ⟨D, 4, none⟩ = some (.bool o) ∧ w.frozen? ⟨D, 1, none⟩ = false ∧ w.frozen? ⟨D, 2, none⟩ = false ∧ w.frozen? ⟨D, 4, none⟩ = false := by
  unfold ScAt at h
  simp [World.cell?, World.frozen?, h]
theorem ScAt.of (h : ScAt w D k tv t o) (hb : w'.heap[D]? = w.heap[D]?) : ScAt w' D k tv t o := hb.trans h
theorem ScAt.below (h : ScAt w D k tv t o) {B : Nat} (hb : Below B w w') (hB : D < B) : ScAt w' D k tv t o := h.of (hb.block D hB)
theorem ScAt.set1 (h : ScAt w D k tv t o) (v : Value) : ScAt (w.setCell ⟨D, 1, none⟩ v) D k v t o := by
  unfold ScAt at h ⊢
  simp [World.setCell, Array.getElem?_modify, h]
theorem ScAt.set2 (h : ScAt w D k tv t o) (u : Int) : ScAt (w.setCell ⟨D, 2, none⟩ (.int .i64 u)) D k tv u o := by
  unfold ScAt at h ⊢
  simp [World.setCell, Array.getElem?_modify, h]
theorem ScAt.set4 (h : ScAt w D k tv t o) (b : Bool) : ScAt (w.setCell ⟨D, 4, none⟩ (.bool b)) D k tv t b := by
  unfold ScAt at h ⊢
  simp [World.setCell, Array.getElem?_modify, h]
end

theorem sready_is (D : Nat) (k : Int) (tv : Value) (t : Int) (o : Bool) (c : Int) (w : World) (hD : ScAt w D k tv t o) (hc : Hid ((if o = true then 3 else 0) = c)) :
    Calls Try.prog 27 #[.pointer (some ⟨D, 0, none⟩)] w fun e w' => e = .returned (.int .i64 c) ∧ w = w' := by
  obtain ⟨c0, c1, c2, c3, c4, f1, f2, f4⟩ := hD.cells
  cases o
  · obtain rfl : (0 : Int) = c := by simpa [Hid] using hc
    go_enter Try.func27, Try.ntmps27
    go_wp2
    go_ret
    exact ⟨rfl, rfl⟩
  · obtain rfl : (3 : Int) = c := by simpa [Hid] using hc
    go_enter Try.func27, Try.ntmps27
    go_wp2
    go_ret
    exact ⟨rfl, rfl⟩

set_option maxHeartbeats 1000000 in
theorem ends_any (D : Nat) (k : Int) (tv : Value) (t : Int) (o : Bool) (l : List Int) (s : ByteArray) (ws : List Int) (w : World) (hD : ScAt w D k tv t o) (hl : SlI .i32 w.heap.size w tv l) (hx : l.length ≤ 1099511627776)
    (hws : Hid (Conv.runesFrom s s.size 0 #[] = (ws.map (Value.int .i32)).toArray)) (hwl : ws.length ≤ 100) :
    Calls Try.prog 39 #[.pointer (some ⟨D, 0, none⟩), .string s] w fun e w' => e = .returned (.bool (endsL ws l)) ∧ Below w.heap.size w w' := by
  have hsz : (Conv.runesFrom s s.size 0 #[]).size = ws.length := by rw [hws.out]; simp
  have hcv := fun w0 => run_runes_of_string (P := Try.prog) w0 9 32 21 s Try.underlying9 Try.underlying32 Try.underlying21 (by omega)
  simp only [hsz] at hcv
  rw [hws.out] at hcv
  obtain ⟨ao, cap, rfl, hcap, hn, hr⟩ := hl
  obtain ⟨c0, c1, c2, c3, c4, f1, f2, f4⟩ := hD.cells
  have hDl := hD.lt
  have HR := Lib.hid hr
  clear hr hsz
  have hal : ∀ ob : Obj, (w.alloc ob).cell? ⟨D, 1, none⟩ = some (.slice ao l.length cap) := fun ob => by rw [((Below.refl w.heap.size w).alloc (Nat.le_refl _) ob).cell (p := ⟨D, 1, none⟩) hDl]; exact c1
  have haw : ∀ (X : Array Value) (e : TypeId) (j : Nat) (x : Int), ws[j]? = some x → (w.alloc (.cells ((ws.map (Value.int .i32)).toArray ++ X) e)).cell? ⟨w.heap.size, j, none⟩ = some (.int .i32 x) := fun X e j x hj => by
    have hlt := (List.getElem?_eq_some_iff.1 hj).1
    rw [World.cell?_alloc_at _ _ _ _ rfl, Array.getElem?_append_left (by simpa using hlt)]
    simp [hj]
  have HAW := Lib.hid haw
  clear haw
  go_enter Try.func39, Try.ntmps39
  by_cases hlen : l.length < ws.length
  · have he := endsL_short hlen
    have HE := Lib.hid he
    clear he
    go_wp2
    go_ret
    exact ⟨ret_boolx HE.out.symm, by first | exact below_drewN (((Below.refl w.heap.size w).alloc (Nat.le_refl _) _)) 1 | exact ((Below.refl w.heap.size w).drew).alloc (Nat.le_refl _) _⟩
  · have hle2 : ws.length ≤ l.length := by omega
    go_wp2
    go_loopw [20] (fun i wr => ∃ j : Nat, i = .int .i64 j ∧ j ≤ ws.length ∧ (∀ m, m < j → l[l.length - ws.length + m]? = ws[m]?) ∧ Below w.heap.size w wr ∧ (∀ (j : Nat) x, ws[j]? = some x → wr.cell? ⟨w.heap.size, j, none⟩ = some (.int .i32 x))) (fun i _ => ws.length - (intOf i).toNat)
    case atStart =>
      refine ⟨0, rfl, Nat.zero_le _, fun m h => by omega, ?_, ?_⟩
      · first | exact below_drewN (((Below.refl w.heap.size w).alloc (Nat.le_refl _) _)) 1 | exact ((Below.refl w.heap.size w).drew).alloc (Nat.le_refl _) _
      · intro j x hj
        exact HAW.out _ _ j x hj
    case round =>
      obtain ⟨j, rfl, hj, hall, hbw, hcw⟩ := hrel
      have hc1 := (hbw.cell (p := ⟨D, 1, none⟩) hDl).trans c1
      by_cases hjn : j < ws.length
      · obtain ⟨b, off, rfl, hbl, hrun⟩ := HR.out (by omega)
        obtain ⟨x, hxj⟩ := get_of_lt ws hjn
        obtain ⟨y, hyj⟩ := get_of_lt l (show l.length - ws.length + j < l.length by omega)
        have hcx := hcw j x hxj
        have hcy := (hbw.cell (p := ⟨b, off + (l.length - ws.length + j), none⟩) hbl).trans (hrun _ y hyj)
        have e1 : IntKind.i64.wrap ((l.length : Int) - (ws.length : Int)) = ((l.length - ws.length : Nat) : Int) := by rw [IntWalk.i64_in _ (by omega)]; omega
        have e2 : IntKind.i64.wrap (((l.length - ws.length : Nat) : Int) + (j : Int)) = ((l.length - ws.length + j : Nat) : Int) := by rw [IntWalk.i64_in _ (by omega)]; omega
        have hidx : l.length - ws.length + j < l.length := by omega
        have HX := Lib.hid hxj
        have HY := Lib.hid hyj
        have HA := Lib.hid hall
        have HC := Lib.hid hcw
        clear hxj hyj hall hcw hlen
        generalize hpe : l.length - ws.length + j = p at *
        generalize hqe : l.length - ws.length = q at *
        have HPE := Lib.hid hpe
        have HQE := Lib.hid hqe
        clear hpe hqe
        by_cases hxy : y = x
        · subst hxy
          have hb1 : (y != y) = false := by simp
          go_wp2
          go_quiet (fail)
          go_wp2
          go_roundw
          case rel =>
            refine ⟨j + 1, by go_num, by omega, fun m hm => ?_, below_drewN hbw _, fun j x hj => HC.out j x hj⟩
            by_cases hmj : m < j
            · exact HA.out m hmj
            · obtain rfl : m = j := by omega
              rw [HPE.out, HX.out, HY.out]
          case measure => simp [intOf]; omega
        · have hb1 : (y != x) = true := by simpa using hxy
          have he : endsL ws l = false := endsL_miss (m := j) hle2 (by omega) (by rw [HQE.out, HPE.out, HX.out, HY.out]; simpa using hxy)
          have HE := Lib.hid he
          clear he
          go_wp2
          go_quiet (fail)
          go_wp2
          go_ret
          exact ⟨ret_boolx HE.out.symm, below_drewN hbw _⟩
      · obtain rfl : j = ws.length := by omega
        have he := endsL_all (by omega) hall
        have HE := Lib.hid he
        clear he hall hcw
        go_wp2
        go_ret
        exact ⟨ret_boolx HE.out.symm, hbw⟩

/-- the literals that are looked for, as runes -/
theorem lit_gt : Hid (Conv.runesFrom (⟨#[62]⟩ : ByteArray) (⟨#[62]⟩ : ByteArray).size 0 #[] = (([62] : List Int).map (Value.int .i32)).toArray) := Lib.hid (by kernel_rfl)
theorem lit_dgt : Hid (Conv.runesFrom (⟨#[45, 62]⟩ : ByteArray) (⟨#[45, 62]⟩ : ByteArray).size 0 #[] = (([45, 62] : List Int).map (Value.int .i32)).toArray) := Lib.hid (by kernel_rfl)
theorem lit_ddgt : Hid (Conv.runesFrom (⟨#[45, 45, 62]⟩ : ByteArray) (⟨#[45, 45, 62]⟩ : ByteArray).size 0 #[] = (([45, 45, 62] : List Int).map (Value.int .i32)).toArray) := Lib.hid (by kernel_rfl)
theorem lit_ddxgt : Hid (Conv.runesFrom (⟨#[45, 45, 33, 62]⟩ : ByteArray) (⟨#[45, 45, 33, 62]⟩ : ByteArray).size 0 #[] = (([45, 45, 33, 62] : List Int).map (Value.int .i32)).toArray) := Lib.hid (by kernel_rfl)
theorem lit_ddx : Hid (Conv.runesFrom (⟨#[45, 45, 33]⟩ : ByteArray) (⟨#[45, 45, 33]⟩ : ByteArray).size 0 #[] = (([45, 45, 33] : List Int).map (Value.int .i32)).toArray) := Lib.hid (by kernel_rfl)
theorem lit_dd : Hid (Conv.runesFrom (⟨#[45, 45]⟩ : ByteArray) (⟨#[45, 45]⟩ : ByteArray).size 0 #[] = (([45, 45] : List Int).map (Value.int .i32)).toArray) := Lib.hid (by kernel_rfl)
theorem lit_d : Hid (Conv.runesFrom (⟨#[45]⟩ : ByteArray) (⟨#[45]⟩ : ByteArray).size 0 #[] = (([45] : List Int).map (Value.int .i32)).toArray) := Lib.hid (by kernel_rfl)

/-- ends, as a caller meets it, with the answer at hand -/
theorem ends_is (D : Nat) (k : Int) (tv : Value) (t : Int) (o : Bool) (l : List Int) (s : ByteArray) (ws : List Int) (c : Bool) (w : World) (hD : ScAt w D k tv t o) (hl : SlI .i32 w.heap.size w tv l) (hx : l.length ≤ 1099511627776)
    (hws : Hid (Conv.runesFrom s s.size 0 #[] = (ws.map (Value.int .i32)).toArray)) (hwl : ws.length ≤ 100) (hc : Hid (endsL ws l = c)) :
    Calls Try.prog 39 #[.pointer (some ⟨D, 0, none⟩), .string s] w fun e w' => e = .returned (.bool c) ∧ (ScAt w' D k tv t o ∧ SlI .i32 w'.heap.size w' tv l) ∧ Below w.heap.size w w' := by
  refine (ends_any D k tv t o l s ws w hD hl hx hws hwl).mono ?_
  rintro e w' ⟨rfl, hb⟩
  exact ⟨by rw [hc.out], ⟨hD.below hb hD.lt, hl.step hb⟩, hb⟩

end Go.Proofs.Ytoccmpaonicnnaa
