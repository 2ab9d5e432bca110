/- sieveref09: letters, Open, begins, ends. -/
import Derived.Test.YtoccmpaonicnnaaOpen
namespace Go.Proofs.Ytoccmpaonicnnaa
open Go.RowKit
set_option linter.unusedVariables false
set_option linter.unusedSimpArgs false

theorem letters_short (s p : ByteArray) (w : World) (h : s.size < p.size) (hp : p.size ≤ 1099511627776) :
    Calls Try.prog 22 #[.string s, .string p] w fun e w' => e = .returned (.bool false) ∧ w = w' := by
  go_enter Try.func22, Try.ntmps22
  go_wp2
  go_ret
  exact ⟨rfl, rfl⟩

theorem letters_next {xs ps : List Int} {k : Nat} {a b : Int} (hall : ∀ m, m < k → (xs[m]?.map lowC) = ps[m]?) (ha : xs[k]? = some a) (hb : ps[k]? = some b) (h : lowC a = b) : ∀ m, m < k + 1 → (xs[m]?.map lowC) = ps[m]? := by
  intro m hm
  by_cases e : m < k
  · exact hall m e
  · obtain rfl : m = k := by omega
    rw [ha, hb, ← h]; rfl
theorem letters_stop {s p : ByteArray} {c : Bool} (hc : Hid (decide (lowL ((ns s).take p.size) = ns p) = c)) (h : p.size ≤ s.size) {k : Nat} (hk : k < p.size) {a b : Int} (ha : (ns s)[k]? = some a) (hb : (ns p)[k]? = some b) (hne : lowC a ≠ b) : c = false := by
  rw [← hc.out, decide_eq_false_iff_not]
  intro e
  have := congrArg (fun l => l[k]?) e
  simp only [lowL, List.getElem?_map, List.getElem?_take, if_pos hk, ha, hb, Option.map_some, Option.some.injEq] at this
  exact hne this
theorem letters_all {s p : ByteArray} {c : Bool} (hc : Hid (decide (lowL ((ns s).take p.size) = ns p) = c)) (h : p.size ≤ s.size) (hall : ∀ m, m < p.size → ((ns s)[m]?.map lowC) = (ns p)[m]?) : c = true := by
  rw [← hc.out, decide_eq_true_eq]
  apply List.ext_getElem?
  intro m
  simp only [lowL, List.getElem?_map, List.getElem?_take]
  by_cases hm : m < p.size
  · rw [if_pos hm]; exact hall m hm
  · rw [if_neg hm, List.getElem?_eq_none (l := ns p) (by rw [ns_length]; omega)]; rfl

set_option maxHeartbeats 1000000 in
theorem letters_go (s p : ByteArray) (w : World) (h : p.size ≤ s.size) (hs : s.size ≤ 9223372036854775807) (c : Bool) (hc : Hid (decide (lowL ((ns s).take p.size) = ns p) = c)) :
    Calls Try.prog 22 #[.string s, .string p] w fun e w' => e = .returned (.bool c) ∧ w = w' := by
  go_enter Try.func22, Try.ntmps22
  go_wp2
  go_loop [5, 6] (fun i _ => ∃ k : Nat, i = .int .i64 k ∧ k ≤ p.size ∧ ∀ m, m < k → ((ns s)[m]?.map lowC) = (ns p)[m]?) (fun i _ => p.size - (intOf i).toNat)
  case atStart => exact ⟨0, rfl, Nat.zero_le _, fun m h => by omega⟩
  case round =>
    obtain ⟨k, rfl, hk, hall⟩ := hrel
    by_cases hkn : k < p.size
    · have hks : k < s.size := by omega
      have g1 := ns_get hks
      have g2 := ns_get hkn
      have HA := Lib.hid hall
      have G1 := Lib.hid g1
      have G2 := Lib.hid g2
      clear hall g1 g2
      by_cases h1 : 65 ≤ (s[k]'hks).toNat
      · by_cases h2 : (s[k]'hks).toNat ≤ 90
        · skip
          have hlo : lowC ((s[k]'hks).toNat : Int) = ((s[k]'hks).toNat : Int) + 32 := by unfold lowC; rw [if_pos (by omega)]
          cases hne : (((s[k]'hks).toNat : Int) + 32 != ((p[k]'hkn).toNat : Int))
          · have heq : ((s[k]'hks).toNat : Int) + 32 = ((p[k]'hkn).toNat : Int) := by simpa using hne
            have hst := letters_next HA.out G1.out G2.out (hlo.trans heq)
            have HS := Lib.hid hst
            clear heq hst hlo
            go_wp2
            go_round
            case rel => exact ⟨k + 1, by go_num, by omega, HS.out⟩
            case measure => simp [intOf]; omega
          · have hneq : ((s[k]'hks).toNat : Int) + 32 ≠ ((p[k]'hkn).toNat : Int) := by simpa using hne
            have hf : c = false := letters_stop hc h hkn G1.out G2.out (by rw [hlo]; exact hneq)
            have HF := Lib.hid hf
            clear hneq hf hlo
            go_wp2
            go_ret
            exact ⟨ret_boolx HF.out.symm, rfl⟩
        · skip
          have hlo : lowC ((s[k]'hks).toNat : Int) = ((s[k]'hks).toNat : Int) := by unfold lowC; rw [if_neg (by omega)]
          cases hne : (((s[k]'hks).toNat : Int) != ((p[k]'hkn).toNat : Int))
          · have heq : ((s[k]'hks).toNat : Int) = ((p[k]'hkn).toNat : Int) := by simpa using hne
            have hst := letters_next HA.out G1.out G2.out (hlo.trans heq)
            have HS := Lib.hid hst
            clear heq hst hlo
            go_wp2
            go_round
            case rel => exact ⟨k + 1, by go_num, by omega, HS.out⟩
            case measure => simp [intOf]; omega
          · have hneq : ((s[k]'hks).toNat : Int) ≠ ((p[k]'hkn).toNat : Int) := by simpa using hne
            have hf : c = false := letters_stop hc h hkn G1.out G2.out (by rw [hlo]; exact hneq)
            have HF := Lib.hid hf
            clear hneq hf hlo
            go_wp2
            go_ret
            exact ⟨ret_boolx HF.out.symm, rfl⟩
      · skip
        have hlo : lowC ((s[k]'hks).toNat : Int) = ((s[k]'hks).toNat : Int) := by unfold lowC; rw [if_neg (by omega)]
        cases hne : (((s[k]'hks).toNat : Int) != ((p[k]'hkn).toNat : Int))
        · have heq : ((s[k]'hks).toNat : Int) = ((p[k]'hkn).toNat : Int) := by simpa using hne
          have hst := letters_next HA.out G1.out G2.out (hlo.trans heq)
          have HS := Lib.hid hst
          clear heq hst hlo
          go_wp2
          go_round
          case rel => exact ⟨k + 1, by go_num, by omega, HS.out⟩
          case measure => simp [intOf]; omega
        · have hneq : ((s[k]'hks).toNat : Int) ≠ ((p[k]'hkn).toNat : Int) := by simpa using hne
          have hf : c = false := letters_stop hc h hkn G1.out G2.out (by rw [hlo]; exact hneq)
          have HF := Lib.hid hf
          clear hneq hf hlo
          go_wp2
          go_ret
          exact ⟨ret_boolx HF.out.symm, rfl⟩
    · obtain rfl : k = p.size := by omega
      have hf : c = true := letters_all hc h hall
      have HF := Lib.hid hf
      clear hf hall
      go_wp2
      go_ret
      exact ⟨ret_boolx HF.out.symm, rfl⟩

theorem letters_any (s p : ByteArray) (w : World) (hs : s.size ≤ 9223372036854775807) (hp : p.size ≤ 1099511627776) :
    Calls Try.prog 22 #[.string s, .string p] w fun e w' => e = .returned (.bool (decide (lowL ((ns s).take p.size) = ns p))) ∧ w = w' := by
  by_cases h : p.size ≤ s.size
  · exact letters_go s p w h hs _ (Lib.hid rfl)
  · have : decide (lowL ((ns s).take p.size) = ns p) = false := by
      rw [decide_eq_false_iff_not]; intro e
      have := congrArg List.length e
      simp [lowL, ns_length] at this; omega
    rw [this]
    exact letters_short s p w (by omega) hp

/-- a text's beginning: in the reference's own words -/
theorem begins_any (s p : ByteArray) (w : World) (hs : s.size ≤ 9223372036854775807) (hp : p.size ≤ 9223372036854775807) :
    Calls Try.prog 36 #[.string s, .string p] w fun e w' => e = .returned (.bool (preB (ns p) (ns s))) ∧ w = w' := by
  by_cases h : p.size ≤ s.size
  · have he := ext_beq s p h
    have h1 : decide ((p.size : Int) ≤ (s.size : Int)) = true := by simp; omega
    have h5 := fun w0 => run_slice_string_to (P := Try.prog) w0 9 s p.size h Try.underlying9
    have HE := Lib.hid he
    clear he
    go_enter Try.func36, Try.ntmps36
    go_wp2
    go_ret
    exact ⟨ret_boolx HE.out, rfl⟩
  · have he : preB (ns p) (ns s) = false := by
      unfold preB; rw [decide_eq_false_iff_not, prefix_iff, ns_length, ns_length]; omega
    have h1 : decide ((p.size : Int) ≤ (s.size : Int)) = false := by simp; omega
    have HE := Lib.hid he
    clear he
    go_enter Try.func36, Try.ntmps36
    go_wp2
    go_ret
    exact ⟨ret_boolx HE.out.symm, rfl⟩
def sufB (ws xs : List Int) : Bool := decide (ws <:+ xs)
theorem ext_end (s p : ByteArray) (h : p.size ≤ s.size) : ((s.extract (s.size - p.size) s.size).toList == p.toList) = sufB (ns p) (ns s) := by
  have hl := ns_length s
  rw [toList_beq2, sufB, Bool.eq_iff_iff, decide_eq_true_eq, decide_eq_true_eq]
  constructor
  · intro e
    have := congrArg ns e
    rw [ns_extract, ← hl, List.take_length] at this
    exact ⟨_, by rw [← this]; exact List.take_append_drop _ _⟩
  · rintro ⟨r, e⟩
    apply ns_inj
    rw [ns_extract, ← hl, List.take_length, ← e]
    have h2 := congrArg List.length e
    rw [List.length_append, ns_length, hl] at h2
    rw [List.length_append, ns_length, show r.length + p.size - p.size = r.length by omega, List.drop_left]
theorem rends_any (s p : ByteArray) (w : World) (hs : s.size ≤ 1099511627776) (hp : p.size ≤ 1099511627776) :
    Calls Try.prog 25 #[.string s, .string p] w fun e w' => e = .returned (.bool (sufB (ns p) (ns s))) ∧ w = w' := by
  by_cases h : p.size ≤ s.size
  · have he := ext_end s p h
    have h1 : decide ((p.size : Int) ≤ (s.size : Int)) = true := by simp; omega
    have h5 := fun w0 => run_slice_string_from (P := Try.prog) w0 9 s (s.size - p.size) (by omega) Try.underlying9
    have e1 : ((s.size - p.size : Nat) : Int) = (s.size : Int) - (p.size : Int) := by omega
    rw [e1] at h5
    have HE := Lib.hid he
    clear he e1
    go_enter Try.func25, Try.ntmps25
    go_wp2
    go_ret
    exact ⟨ret_boolx HE.out, rfl⟩
  · have he : sufB (ns p) (ns s) = false := by
      unfold sufB; rw [decide_eq_false_iff_not]; intro hsuf
      have := hsuf.length_le
      rw [ns_length, ns_length] at this; omega
    have h1 : decide ((p.size : Int) ≤ (s.size : Int)) = false := by simp; omega
    have HE := Lib.hid he
    clear he
    go_enter Try.func25, Try.ntmps25
    go_wp2
    go_ret
    exact ⟨ret_boolx HE.out.symm, rfl⟩

end Go.Proofs.Ytoccmpaonicnnaa
