/- Strings as lists of numbers; the model's own reading and writing of runes against the plain law. No program is named here. -/
import Derived.Test.YtbdkiiaiadbmbaaSl
import Derived.Test.YtbdkiiaiadbmbaaBack
import Derived.Laws.RangeAny
import Derived.Laws.Cover4
import Derived.Lib.OthersKept
import Derived.Laws.IdiomStrings
namespace Go.Proofs.Ytbdkiiaiadbmbaa
open Go.RowKit
set_option linter.unusedVariables false
set_option linter.unusedSimpArgs false

/-- a string's bytes, as numbers -/
def ns (s : ByteArray) : List Int := s.data.toList.map fun b => (b.toNat : Int)
theorem ns_length (s : ByteArray) : (ns s).length = s.size := by simp [ns]
theorem ns_byts (s : ByteArray) : Byts (ns s) := by
  intro x hx
  obtain ⟨b, _, rfl⟩ := List.mem_map.1 hx
  have := b.toNat_lt
  omega
theorem ns_get {s : ByteArray} {i : Nat} (h : i < s.size) : (ns s)[i]? = some ((s[i]'h).toNat : Int) := by
  have h2 : i < s.data.size := h
  simp only [ns, List.getElem?_map, Array.getElem?_toList, Array.getElem?_eq_getElem h2, Option.map_some]
  rfl
theorem get!_eq {s : ByteArray} {i : Nat} (h : i < s.size) : s.get! i = s[i]'h := by
  simp [ByteArray.get!, getElem!_pos, h]; first | done | rfl
theorem str_ns (t : ByteArray) : strOfNums (ns t) = t := by
  cases t with
  | mk d =>
    have h : ∀ l : List UInt8, l.map ((fun n : Int => UInt8.ofNat n.toNat) ∘ fun x : UInt8 => (x.toNat : Int)) = l := by
      intro l
      induction l with
      | nil => rfl
      | cons x r ih => simp [ih]
    simp [strOfNums, ns, h]
theorem ns_str {xs : List Int} (h : Byts xs) : ns (strOfNums xs) = xs := by
  simp only [ns, strOfNums_data, List.map_map]
  have : ∀ x ∈ xs, ((fun b : UInt8 => (b.toNat : Int)) ∘ fun n : Int => UInt8.ofNat n.toNat) x = x := by
    intro x hx
    obtain ⟨h0, h1⟩ := h x hx
    have : x.toNat < 256 := by omega
    simp [Nat.mod_eq_of_lt this]; omega
  rw [List.map_congr_left this]; simp
theorem ns_inj {s t : ByteArray} (h : ns s = ns t) : s = t := by rw [← str_ns s, h, str_ns]
theorem ns_append (s t : ByteArray) : ns (s ++ t) = ns s ++ ns t := by simp [ns]
theorem str_append (xs ys : List Int) : strOfNums xs ++ strOfNums ys = strOfNums (xs ++ ys) := by
  cases h : strOfNums xs ++ strOfNums ys with
  | mk d =>
    have h2 := congrArg ByteArray.data h
    simp [strOfNums] at h2 ⊢
    exact h2.symm
theorem ns_extract (s : ByteArray) (a b : Nat) : ns (s.extract a b) = ((ns s).take b).drop a := by
  simp [ns, List.map_drop, List.map_take, List.drop_take]
theorem str_inj {xs ys : List Int} (hx : Byts xs) (hy : Byts ys) : strOfNums xs = strOfNums ys ↔ xs = ys :=
  ⟨fun h => by rw [← ns_str hx, h, ns_str hy], fun h => by rw [h]⟩
theorem toList_ns (s : ByteArray) : ns s = s.data.toList.map fun b => (b.toNat : Int) := rfl

/-- a string of these bytes, as the walk asks for it -/
theorem toList_beq (s : ByteArray) (l : List UInt8) : (s.toList == l) = decide (ns s = l.map fun b => (b.toNat : Int)) := by
  rw [ByteArray.toList_eq, Bool.eq_iff_iff, beq_iff_eq, decide_eq_true_eq]
  constructor
  · rintro rfl; rfl
  · intro h
    have inj : ∀ (a b : List UInt8), (a.map fun x => (x.toNat : Int)) = b.map (fun x => (x.toNat : Int)) → a = b := by
      intro a
      induction a with
      | nil => intro b h; cases b with | nil => rfl | cons => simp at h
      | cons x a ih =>
        intro b h
        cases b with
        | nil => simp at h
        | cons y b =>
          simp only [List.map_cons, List.cons.injEq] at h
          rw [ih b h.2, UInt8.toNat_inj.1 (by omega : x.toNat = y.toNat)]
    exact inj _ _ h
theorem toList_beq2 (s t : ByteArray) : (s.toList == t.toList) = decide (s = t) := by
  rw [toList_beq, ByteArray.toList_eq, Bool.eq_iff_iff, decide_eq_true_eq, decide_eq_true_eq]
  exact ⟨fun h => ns_inj h, fun h => by rw [h]; rfl⟩

/-- the model's reading of a rune, in the law's words -/
theorem dec_unfold (s : ByteArray) (p : Nat) (A : Nat → Nat) (hA : ∀ k, (s.get! (p + k)).toNat = A k) : Utf8.decode s p =
    if A 0 < 128 then (A 0, 1)
    else if A 0 / 32 = 6 ∧ (p + 1 < s.size ∧ A 1 / 64 = 2) then (if 128 ≤ A 0 % 32 * 64 + A 1 % 64 then (A 0 % 32 * 64 + A 1 % 64, 2) else (65533, 1))
    else if (A 0 / 16 = 14 ∧ (p + 1 < s.size ∧ A 1 / 64 = 2)) ∧ (p + 2 < s.size ∧ A 2 / 64 = 2) then
      (if 2048 ≤ A 0 % 16 * 4096 + A 1 % 64 * 64 + A 2 % 64 ∧ validRune ((A 0 % 16 * 4096 + A 1 % 64 * 64 + A 2 % 64 : Nat) : Int) = true then (A 0 % 16 * 4096 + A 1 % 64 * 64 + A 2 % 64, 3) else (65533, 1))
    else if ((A 0 / 8 = 30 ∧ (p + 1 < s.size ∧ A 1 / 64 = 2)) ∧ (p + 2 < s.size ∧ A 2 / 64 = 2)) ∧ (p + 3 < s.size ∧ A 3 / 64 = 2) then
      (if 65536 ≤ A 0 % 8 * 262144 + A 1 % 64 * 4096 + A 2 % 64 * 64 + A 3 % 64 ∧ validRune ((A 0 % 8 * 262144 + A 1 % 64 * 4096 + A 2 % 64 * 64 + A 3 % 64 : Nat) : Int) = true then (A 0 % 8 * 262144 + A 1 % 64 * 4096 + A 2 % 64 * 64 + A 3 % 64, 4) else (65533, 1))
    else (65533, 1) := by
  simp only [Utf8.decode, hA, Bool.and_eq_true, beq_iff_eq, decide_eq_true_eq, ge_iff_le, validRune_eq, Utf8.runeError]

theorem vr_iff (n : Nat) : validRune (n : Int) = true ↔ (n < 55296 ∨ (57343 < n ∧ n ≤ 1114111)) := by
  simp only [validRune, decide_eq_true_eq]; omega

/-- where the model reads a rune of more than one byte it is whole by the law too -/
theorem decode_rd (s : ByteArray) (p : Nat) (h : p < s.size) :
    ((rd ((ns s).drop p)).2.2 = 0 → Utf8.decode s p = ((rd ((ns s).drop p)).1.toNat, (rd ((ns s).drop p)).2.1)) ∧ ((rd ((ns s).drop p)).2.2 ≠ 0 → Utf8.decode s p = (65533, 1)) := by
  obtain ⟨A, hA⟩ : ∃ A : Nat → Nat, ∀ k, (s.get! (p + k)).toNat = A k := ⟨_, fun _ => rfl⟩
  have hb : ∀ k, p + k < s.size → ((ns s).drop p)[k]? = some (A k : Int) := by
    intro k hk
    rw [List.getElem?_drop, ns_get hk, ← hA k, get!_eq hk]
  have hA8 : ∀ k, A k < 256 := fun k => by rw [← hA k]; exact (s.get! (p + k)).toNat_lt
  have hl : ((ns s).drop p).length = s.size - p := by simp [ns_length]
  have hby : Byts ((ns s).drop p) := (ns_byts s).drop p
  rw [dec_unfold s p A hA]
  generalize (ns s).drop p = b at *
  have h0 := hA8 0; have h1 := hA8 1; have h2 := hA8 2; have h3 := hA8 3
  constructor
  · intro hw
    obtain ⟨hg, he⟩ := rd_whole hby (by omega) hw
    have hsz := rd_size b (by omega)
    have hpre : ∀ k x, (encC (rd b).1)[k]? = some x → x = (A k : Int) ∧ p + k < s.size := by
      intro k x hk
      rw [he] at hk
      have hlt := (List.getElem?_eq_some_iff.1 hk).1
      simp at hlt
      have hkl : p + k < s.size := by omega
      rw [List.getElem?_take, if_pos (by omega), hb k hkl] at hk
      exact ⟨(Option.some.inj hk).symm, hkl⟩
    have hn : (rd b).2.1 = (encC (rd b).1).length := by rw [he]; simp; omega
    rw [hn]
    generalize (rd b).1 = c at *
    obtain ⟨g0, g1, g2⟩ := (goodB_iff c).1 hg
    clear he hw hg hb hby hsz hn
    unfold encC at hpre ⊢
    by_cases c1 : c < 128
    · rw [if_pos c1] at hpre ⊢
      obtain ⟨e0, _⟩ := hpre 0 c rfl
      rw [if_pos (by omega)]
      simp only [List.length_cons, List.length_nil, Prod.mk.injEq, Nat.zero_add, Nat.reduceAdd, and_true]; omega
    · rw [if_neg c1] at hpre ⊢
      by_cases c2 : c < 2048
      · rw [if_pos c2] at hpre ⊢
        obtain ⟨e0, _⟩ := hpre 0 (192 + c / 64) rfl
        obtain ⟨e1, l1⟩ := hpre 1 (128 + c % 64) rfl
        rw [if_neg (by omega), if_pos ⟨by omega, l1, by omega⟩, if_pos (by omega)]
        simp only [List.length_cons, List.length_nil, Prod.mk.injEq, Nat.zero_add, Nat.reduceAdd, and_true]; omega
      · rw [if_neg c2] at hpre ⊢
        by_cases c3 : c < 65536
        · rw [if_pos c3] at hpre ⊢
          obtain ⟨e0, _⟩ := hpre 0 (224 + c / 4096) rfl
          obtain ⟨e1, l1⟩ := hpre 1 (128 + c / 64 % 64) rfl
          obtain ⟨e2, l2⟩ := hpre 2 (128 + c % 64) rfl
          rw [if_neg (by omega), if_neg (by omega), if_pos ⟨⟨by omega, l1, by omega⟩, l2, by omega⟩, if_pos ⟨by omega, (vr_iff _).2 (by omega)⟩]
          simp only [List.length_cons, List.length_nil, Prod.mk.injEq, Nat.zero_add, Nat.reduceAdd, and_true]; omega
        · rw [if_neg c3] at hpre ⊢
          obtain ⟨e0, _⟩ := hpre 0 (240 + c / 262144) rfl
          obtain ⟨e1, l1⟩ := hpre 1 (128 + c / 4096 % 64) rfl
          obtain ⟨e2, l2⟩ := hpre 2 (128 + c / 64 % 64) rfl
          obtain ⟨e3, l3⟩ := hpre 3 (128 + c % 64) rfl
          rw [if_neg (by omega), if_neg (by omega), if_neg (by omega), if_pos ⟨⟨⟨by omega, l1, by omega⟩, l2, by omega⟩, l3, by omega⟩, if_pos ⟨by omega, (vr_iff _).2 (by omega)⟩]
          simp only [List.length_cons, List.length_nil, Prod.mk.injEq, Nat.zero_add, Nat.reduceAdd, and_true]; omega
  · intro hw
    have cut : ∀ k, p + k < s.size → b.drop k = (A k : Int) :: b.drop (k + 1) := by
      intro k hk
      have := hb k hk
      obtain ⟨hlt, he⟩ := List.getElem?_eq_some_iff.1 this
      rw [List.drop_eq_getElem_cons hlt, he]
    have cut0 := cut 0 (by omega)
    rw [List.drop_zero] at cut0
    by_cases c1 : A 0 < 128
    · exfalso; apply hw
      rw [cut0, rd_one _ (by omega)]
    · rw [if_neg c1]
      split
      · rename_i hc
        rw [if_neg]
        intro hv; apply hw
        rw [cut0, cut 1 (by omega), rd_2 _ (by omega) (by omega) (by omega) (by omega)]
      · split
        · rename_i hc
          rw [if_neg]
          rintro ⟨hv, hv2⟩; apply hw
          rw [vr_iff] at hv2
          rw [cut0, cut 1 (by omega), cut 2 (by omega), rd_3 _ (by omega) (by omega) (by rw [bndL_3 (by omega) (by omega)]; split <;> omega) (by rw [bndH_3 (by omega) (by omega)]; split <;> omega) (by omega) (by omega)]
        · split
          · rename_i hc
            rw [if_neg]
            rintro ⟨hv, hv2⟩; apply hw
            rw [vr_iff] at hv2
            rw [cut0, cut 1 (by omega), cut 2 (by omega), cut 3 (by omega), rd_4 _ (by omega) (by omega) (by rw [bndL_4 (by omega) (by omega)]; split <;> omega) (by rw [bndH_4 (by omega) (by omega)]; split <;> omega) (by omega) (by omega) (by omega) (by omega)]
          · rfl

/-- the model's writing of a rune -/
theorem encode_enc (r : Int) : Utf8.encode r = strOfNums (encR r) := by
  have hv : Utf8.valid r = goodB r := by
    rw [validRune_eq, Bool.eq_iff_iff, goodB_iff]; simp only [validRune, decide_eq_true_eq]; omega
  have key : ∀ c : Nat, (if c < 0x80 then (⟨#[UInt8.ofNat c]⟩ : ByteArray)
      else if c < 0x800 then ⟨#[UInt8.ofNat (0xC0 + c / 64), UInt8.ofNat (0x80 + c % 64)]⟩
      else if c < 0x10000 then ⟨#[UInt8.ofNat (0xE0 + c / 4096), UInt8.ofNat (0x80 + c / 64 % 64), UInt8.ofNat (0x80 + c % 64)]⟩
      else ⟨#[UInt8.ofNat (0xF0 + c / 262144), UInt8.ofNat (0x80 + c / 4096 % 64), UInt8.ofNat (0x80 + c / 64 % 64), UInt8.ofNat (0x80 + c % 64)]⟩) = strOfNums (encC (c : Int)) := by
    intro c
    unfold encC
    by_cases c1 : c < 128
    · rw [if_pos c1, if_pos (show (c : Int) < 128 by omega)]; simp [strOfNums]
    · rw [if_neg c1, if_neg (show ¬ (c : Int) < 128 by omega)]
      by_cases c2 : c < 2048
      · rw [if_pos c2, if_pos (show (c : Int) < 2048 by omega)]; simp only [strOfNums, List.map_cons, List.map_nil]; congr <;> omega
      · rw [if_neg c2, if_neg (show ¬ (c : Int) < 2048 by omega)]
        by_cases c3 : c < 65536
        · rw [if_pos c3, if_pos (show (c : Int) < 65536 by omega)]; simp only [strOfNums, List.map_cons, List.map_nil]; congr <;> omega
        · rw [if_neg c3, if_neg (show ¬ (c : Int) < 65536 by omega)]; simp only [strOfNums, List.map_cons, List.map_nil]; congr <;> omega
  unfold Utf8.encode encR fixR
  rw [hv]
  cases hg : goodB r
  · simp only [Bool.false_eq_true, if_false]; exact key 65533
  · simp only [if_true]
    have := key r.toNat
    rw [Int.toNat_of_nonneg ((goodB_iff r).1 hg).1] at this
    exact this
theorem runesBytes_encs (l : List Int) : runesBytes l = strOfNums (encs l) := by
  have : ∀ (l : List Int) (xs : List Int), l.foldl (fun r n => r ++ Utf8.encode n) (strOfNums xs) = strOfNums (xs ++ encs l) := by
    intro l
    induction l with
    | nil => intro xs; simp [encs]
    | cons r l ih =>
      intro xs
      rw [List.foldl_cons, encode_enc, str_append, ih]
      simp [encs]
  exact this l []
theorem ns_empty : ns ByteArray.empty = [] := rfl
theorem str_nil : strOfNums [] = ByteArray.empty := rfl

theorem run_slice_string_to {P : Program} (w : World) (t : TypeId) (s : ByteArray) (n : Nat) (hn : n ≤ s.size) (h : P.underlying t = some .string) :
    (Instr.slice t (.string s) none (some (.int .i64 (n : Int))) none).run P w = .ok (.string (s.extract 0 n)) w := by
  simp [Instr.slice, Instr.sliceBounds, Instr.sliceBound, asIntOf, run_underlying h, hn]
theorem run_slice_string_from {P : Program} (w : World) (t : TypeId) (s : ByteArray) (n : Nat) (hn : n ≤ s.size) (h : P.underlying t = some .string) :
    (Instr.slice t (.string s) (some (.int .i64 (n : Int))) none none).run P w = .ok (.string (s.extract n s.size)) w := by
  simp [Instr.slice, Instr.sliceBounds, Instr.sliceBound, asIntOf, run_underlying h, hn]

/-- string(l), of runes -/
theorem run_conv_runes {P : Program} {B : Nat} {w : World} {v : Value} {xs : List Int} (h : SlI .i32 B w v xs) (src dst e : TypeId) (hs : P.underlying src = some (.slice e)) (he : P.underlying e = some (.int .i32)) (hd : P.underlying dst = some .string) :
    (convert src dst v).run P w = .ok (.string (strOfNums (encs xs))) w := by
  obtain ⟨ao, cap, rfl, hc, hn, hr⟩ := h
  cases ao with
  | none =>
    obtain rfl := hn rfl
    obtain rfl : xs = [] := List.eq_nil_of_length_eq_zero (by omega)
    exact run_convert_runes_nil w src dst e 0 0 hs he hd
  | some a =>
    have := run_convert_runes w src dst e a xs.length cap xs (Nat.le_refl _) hs he hd (fun j hj => by
      obtain ⟨b, off, ha, _, hrun⟩ := hr (by omega)
      cases ha
      rw [Addr.add_lit, hrun j xs[j] (List.getElem?_eq_getElem hj)]
      simp [List.getD, List.getElem?_eq_getElem hj])
    rw [List.take_length, runesBytes_encs] at this
    exact this
/-- []byte(s) -/
theorem slI_bytesRow (w : World) (s : ByteArray) (cap : Nat) (hc : s.size ≤ cap) (e : TypeId) (fr : Nat × Nat) : SlI .u8 (w.heap.size + 1) (w.alloc (.cells (bytesRow s cap) e fr)) (.slice (some ⟨w.heap.size, 0, none⟩) s.size cap) (ns s) := by
  have := SlI.run (k := .u8) (B := w.heap.size + 1) (w := w.alloc (.cells (bytesRow s cap) e fr)) (b := w.heap.size) (off := 0) (cap := cap) (xs := ns s) (by
    intro j x hj
    have hlt : j < s.size := by rw [← ns_length]; exact (List.getElem?_eq_some_iff.1 hj).1
    rw [ns_get hlt] at hj
    rw [Nat.zero_add, World.cell?_alloc_mark, bytesRow_at s cap j hlt]
    exact congrArg (fun x => some (Value.int .u8 x)) (Option.some.inj hj)) (by omega) (by rw [ns_length]; exact hc)
  rw [ns_length] at this
  exact this

end Go.Proofs.Ytbdkiiaiadbmbaa
