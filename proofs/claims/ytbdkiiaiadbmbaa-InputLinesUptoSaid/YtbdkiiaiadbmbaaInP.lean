/- The input stream's plain side: what a rune becomes, cells and their places, by a list of runes and widths. No program is named here. -/
import Derived.Test.YtbdkiiaiadbmbaaDecC
import Derived.Test.YtbdkiiaiadbmbaaUtfA
import Derived.IntWalk
namespace Go.Proofs.Ytbdkiiaiadbmbaa
open Go.RowKit
set_option linter.unusedVariables false
set_option linter.unusedSimpArgs false

def plainOf (r : Int) : Int :=
  if r = 13 then 10 else if r = 9 ∨ r = 10 ∨ r = 12 then r else
  if r < 32 ∨ (127 ≤ r ∧ r ≤ 159) ∨ (55296 ≤ r ∧ r ≤ 57343) ∨ 1114111 < r ∨ (64976 ≤ r ∧ r ≤ 65007) ∨ 65534 ≤ r % 65536 then 65533 else r
theorem plain_plain (r : Int) : plainOf (plainOf r) = plainOf r := by
  unfold plainOf
  repeat (first | omega | split)
theorem plain_not13 (r : Int) : plainOf r ≠ 13 := by
  unfold plainOf
  repeat (first | omega | split)
theorem plain_good (r : Int) : goodB (plainOf r) = true := by
  rw [goodB_iff]
  unfold plainOf
  repeat (first | omega | split)

/-- a place -/
structure Pl where
  b : Int
  l : Int
  c : Int
/-- a cell -/
structure Cl where
  r : Int
  p : Pl
def mv (p : Pl) (r n : Int) : Pl := if r = 10 then ⟨p.b + n, p.l + 1, 1⟩ else ⟨p.b + n, p.l, p.c + 1⟩
def wdAt (b : List Int) (p : Nat) : List (Int × Nat) := (pcsAt b p).map fun c => (c.r, c.n)
def wd (b : List Int) : List (Int × Nat) := wdAt b 0
/-- CR LF are one; each is plain -/
def gr : List (Int × Nat) → List (Int × Nat)
  | [] => []
  | [x] => [(plainOf x.1, x.2)]
  | x :: y :: t => if x.1 = 13 ∧ y.1 = 10 then (10, x.2 + y.2) :: gr t else (plainOf x.1, x.2) :: gr (y :: t)
def cl : List (Int × Nat) → Pl → List Cl
  | [], _ => []
  | x :: t, p => ⟨x.1, p⟩ :: cl t (mv p x.1 x.2)
def pl : List (Int × Nat) → Pl → Pl
  | [], p => p
  | x :: t, p => pl t (mv p x.1 x.2)
def pl0 : Pl := ⟨0, 1, 1⟩
/-- the cells of bytes, the runes of their text -/
def readOf (b : List Int) : List Cl := cl (gr (wd b)) pl0
def textOf (b : List Int) : List Int := (gr (wd b)).map Prod.fst

theorem cl_append : ∀ (a b : List (Int × Nat)) (p : Pl), cl (a ++ b) p = cl a p ++ cl b (pl a p)
  | [], b, p => rfl
  | x :: a, b, p => by simp only [List.cons_append, cl, pl]; rw [cl_append a b]
theorem pl_append : ∀ (a b : List (Int × Nat)) (p : Pl), pl (a ++ b) p = pl b (pl a p)
  | [], b, p => rfl
  | x :: a, b, p => by simp only [List.cons_append, pl]; rw [pl_append a b]
theorem cl_length : ∀ (a : List (Int × Nat)) (p : Pl), (cl a p).length = a.length
  | [], p => rfl
  | x :: a, p => by simp only [cl, List.length_cons]; rw [cl_length a]
theorem cl_runes : ∀ (a : List (Int × Nat)) (p : Pl), (cl a p).map Cl.r = a.map Prod.fst
  | [], p => rfl
  | x :: a, p => by simp only [cl, List.map_cons]; rw [cl_runes a]
theorem gr_length : ∀ (l : List (Int × Nat)), (gr l).length ≤ l.length
  | [] => by simp [gr]
  | [x] => by simp [gr]
  | x :: y :: t => by
    have h1 := gr_length t
    have h2 := gr_length (y :: t)
    simp only [gr]
    split <;> simp_all <;> omega
theorem gr_not13 {r : Int} (h : r ≠ 13) (n : Nat) (t : List (Int × Nat)) : gr ((r, n) :: t) = (plainOf r, n) :: gr t := by
  cases t with
  | nil => rfl
  | cons y t => simp only [gr]; rw [if_neg (by rintro ⟨h1, _⟩; exact h h1)]
theorem gr_crlf (n m : Nat) (t : List (Int × Nat)) : gr ((13, n) :: (10, m) :: t) = (10, n + m) :: gr t := by
  simp [gr]
theorem gr_else {r q : Int} (h : ¬ (r = 13 ∧ q = 10)) (n m : Nat) (t : List (Int × Nat)) : gr ((r, n) :: (q, m) :: t) = (plainOf r, n) :: gr ((q, m) :: t) := by
  simp only [gr]; rw [if_neg h]
theorem gr_append : ∀ {a b : List (Int × Nat)}, (∀ x, a.getLast? = some x → x.1 ≠ 13) → gr (a ++ b) = gr a ++ gr b
  | [], b, _ => rfl
  | [x], b, h => by
    have := h x rfl
    simp only [List.cons_append, List.nil_append]
    rw [show x = (x.1, x.2) from rfl, gr_not13 this]
    rfl
  | x :: y :: t, b, h => by
    simp only [List.cons_append, gr]
    split
    · cases t with
      | nil => simp [gr]
      | cons z t => rw [gr_append (a := z :: t) (b := b) (fun u hu => h u (by simpa using hu))]; rfl
    · have := gr_append (a := y :: t) (b := b) (fun u hu => h u (by simpa using hu))
      simp only [List.cons_append] at this
      rw [this]; rfl
theorem wdAt_end (b : List Int) (p : Nat) (h : b.length ≤ p) : wdAt b p = [] := by rw [wdAt, pcsAt_end b p h]; rfl
theorem wdAt_cons (b : List Int) (p : Nat) (h : p < b.length) : wdAt b p = ((rd (b.drop p)).1, (rd (b.drop p)).2.1) :: wdAt b (p + (rd (b.drop p)).2.1) := by
  rw [wdAt, pcsAt_cons b p h]; rfl
theorem rd_at {b : List Int} {p : Nat} (h : p < b.length) : 1 ≤ (rd (b.drop p)).2.1 ∧ p + (rd (b.drop p)).2.1 ≤ b.length := by
  have := rd_size (b.drop p) (by simp; omega)
  simp at this; omega
theorem wd_length (b : List Int) : (wd b).length ≤ b.length := by have := pcs_length b; simpa [wd, wdAt, pcs] using this
theorem gr_wd_length (b : List Int) : (gr (wd b)).length ≤ b.length := Nat.le_trans (gr_length _) (wd_length b)
theorem readOf_length (b : List Int) : (readOf b).length ≤ b.length := by rw [readOf, cl_length]; exact gr_wd_length b

/-- the machine's state: the pending rune's place, the pending rune, what is told, where it goes on -/
structure St where
  last : Int
  r : Int
  out : List Cl
  here : Pl
def mvW (p : Pl) (r n : Int) : Pl := if r = 10 then ⟨wrap64 (p.b + n), wrap64 (p.l + 1), 1⟩ else ⟨wrap64 (p.b + n), p.l, wrap64 (p.c + 1)⟩
def flushS (s : St) (to : Int) : St := if s.last < 0 then s else ⟨s.last, s.r, s.out ++ [⟨plainOf s.r, s.here⟩], mvW s.here (plainOf s.r) (wrap64 (to - s.last))⟩
def stepS (s : St) (x : Nat × Int) : St := if 0 ≤ s.last ∧ s.r = 13 ∧ x.2 = 10 then ⟨s.last, 10, s.out, s.here⟩ else ⟨x.1, x.2, (flushS s x.1).out, (flushS s x.1).here⟩
def Fits (p : Pl) (n : Int) : Prop := 0 ≤ p.b ∧ 0 ≤ p.l ∧ 0 ≤ p.c ∧ p.b + n ≤ 4611686018427387904 ∧ p.l + n ≤ 4611686018427387904 ∧ p.c + n ≤ 4611686018427387904
theorem mvW_fits {p : Pl} {r n k : Int} (h : Fits p n) (hn : n ≤ 4611686018427387000) (hk : 1 ≤ k) (hkn : k ≤ n) : mvW p r k = mv p r k ∧ Fits (mv p r k) (n - k) := by
  obtain ⟨h1, h2, h3, h4, h5, h6⟩ := h
  unfold mvW mv Fits
  rw [IntWalk.wrap64_in (p.b + k) (by omega), IntWalk.wrap64_in (p.l + 1) (by omega), IntWalk.wrap64_in (p.c + 1) (by omega)]
  split
  · exact ⟨rfl, by simp only; omega⟩
  · exact ⟨rfl, by simp only; omega⟩
theorem fold_pend (xs : List Int) (hx : xs.length ≤ 1099511627776) : ∀ (m p : Nat), xs.length - p ≤ m → p ≤ xs.length → ∀ (s : St) (q : Nat), s.last = q → q < p → Fits s.here ((xs.length : Int) - q) →
    (flushS ((prsAt xs p).foldl stepS s) xs.length).out = s.out ++ cl (gr ((s.r, p - q) :: wdAt xs p)) s.here ∧
    (flushS ((prsAt xs p).foldl stepS s) xs.length).here = pl (gr ((s.r, p - q) :: wdAt xs p)) s.here
  | 0, p, hm, hp, s, q, hq, hqp, hf => by
    obtain rfl : p = xs.length := by omega
    rw [prsAt_end _ _ (Nat.le_refl _), wdAt_end _ _ (Nat.le_refl _)]
    obtain ⟨h1, h2⟩ := mvW_fits (r := plainOf s.r) (k := (xs.length : Int) - q) hf (by omega) (by omega) (by omega)
    simp only [List.foldl_nil, flushS, hq]
    rw [if_neg (by omega), IntWalk.wrap64_in _ (by omega), h1]
    simp only [gr, cl, pl]
    simp [show ((xs.length - q : Nat) : Int) = (xs.length : Int) - q from by omega]
  | m + 1, p, hm, hp, s, q, hq, hqp, hf => by
    by_cases hpx : p < xs.length
    · obtain ⟨g1, g2⟩ := rd_at hpx
      rw [prsAt_cons _ _ hpx, wdAt_cons _ _ hpx, List.foldl_cons]
      generalize (rd (xs.drop p)).1 = c at *
      generalize (rd (xs.drop p)).2.1 = k at *
      by_cases hc : s.r = 13 ∧ c = 10
      · have hst : stepS s (p, c) = ⟨s.last, 10, s.out, s.here⟩ := by unfold stepS; rw [if_pos ⟨by omega, hc.1, hc.2⟩]
        rw [hst]
        obtain ⟨i1, i2⟩ := fold_pend xs hx m (p + k) (by omega) g2 ⟨s.last, 10, s.out, s.here⟩ q hq (by omega) hf
        rw [i1, i2, hc.1, hc.2, gr_crlf, gr_not13 (show (10 : Int) ≠ 13 from by decide), show plainOf 10 = 10 from by decide, show p - q + k = p + k - q from by omega]
        exact ⟨rfl, rfl⟩
      · obtain ⟨h1, h2⟩ := mvW_fits (r := plainOf s.r) (k := (p : Int) - q) hf (by omega) (by omega) (by omega)
        have hst : stepS s (p, c) = ⟨p, c, s.out ++ [⟨plainOf s.r, s.here⟩], mv s.here (plainOf s.r) ((p : Int) - q)⟩ := by
          unfold stepS flushS
          rw [if_neg (by rintro ⟨_, h⟩; exact hc h)]
          simp only [hq]
          rw [if_neg (by omega), IntWalk.wrap64_in _ (by omega), h1]
        rw [hst]
        obtain ⟨i1, i2⟩ := fold_pend xs hx m (p + k) (by omega) g2 ⟨p, c, s.out ++ [⟨plainOf s.r, s.here⟩], mv s.here (plainOf s.r) ((p : Int) - q)⟩ p rfl (by omega) (by
          have : ((xs.length : Int) - q - ((p : Int) - q)) = (xs.length : Int) - p := by omega
          rw [this] at h2; exact h2)
        rw [i1, i2, gr_else hc]
        simp only [cl, pl]
        rw [show ((p - q : Nat) : Int) = (p : Int) - q from by omega, show p + k - p = k from by omega]
        exact ⟨by simp, rfl⟩
    · obtain rfl : p = xs.length := by omega
      rw [prsAt_end _ _ (Nat.le_refl _), wdAt_end _ _ (Nat.le_refl _)]
      obtain ⟨h1, h2⟩ := mvW_fits (r := plainOf s.r) (k := (xs.length : Int) - q) hf (by omega) (by omega) (by omega)
      simp only [List.foldl_nil, flushS, hq]
      rw [if_neg (by omega), IntWalk.wrap64_in _ (by omega), h1]
      simp [gr, cl, pl, show ((xs.length - q : Nat) : Int) = (xs.length : Int) - q from by omega]
def stS (p : Pl) (pre : List (Nat × Int)) : St := pre.foldl stepS ⟨-1, 0, [], p⟩
theorem stS_nil (p : Pl) : stS p [] = ⟨-1, 0, [], p⟩ := rfl
theorem stS_snoc (p : Pl) (pre : List (Nat × Int)) (x : Nat × Int) : stS p (pre ++ [x]) = stepS (stS p pre) x := by simp [stS]
/-- all runes, and the last flush -/
theorem fold_all (xs : List Int) (hx : xs.length ≤ 1099511627776) (p : Pl) (hp : Fits p xs.length) :
    (flushS (stS p (prs xs)) xs.length).out = cl (gr (wd xs)) p ∧ (flushS (stS p (prs xs)) xs.length).here = pl (gr (wd xs)) p := by
  rw [show prs xs = prsAt xs 0 from rfl]
  unfold stS wd
  by_cases h0 : 0 < xs.length
  · obtain ⟨g1, g2⟩ := rd_at h0
    rw [prsAt_cons _ _ h0, wdAt_cons _ _ h0, List.foldl_cons]
    simp only [Nat.zero_add] at g2 ⊢
    have hst : stepS ⟨-1, 0, [], p⟩ (0, (rd (xs.drop 0)).1) = ⟨0, (rd (xs.drop 0)).1, [], p⟩ := by
      unfold stepS flushS
      rw [if_neg (by simp)]
      simp
    rw [hst]
    obtain ⟨i1, i2⟩ := fold_pend xs hx xs.length (rd (xs.drop 0)).2.1 (by omega) g2 ⟨0, (rd (xs.drop 0)).1, [], p⟩ 0 rfl (by omega) (by simpa using hp)
    rw [i1, i2]
    simp
  · obtain rfl : xs = [] := List.eq_nil_of_length_eq_zero (by omega)
    rw [prsAt_end _ _ (by simp), wdAt_end _ _ (by simp)]
    simp [flushS, gr, cl, pl]
theorem stS_out_length (p : Pl) : ∀ (n : Nat) (pre : List (Nat × Int)), pre.length = n → (stS p pre).out.length ≤ n
  | 0, pre, h => by obtain rfl := List.eq_nil_of_length_eq_zero h; simp [stS]
  | n + 1, pre, h => by
    rcases List.eq_nil_or_concat pre with rfl | ⟨q, z, rfl⟩
    · simp at h
    · rw [List.concat_eq_append] at h ⊢
      rw [stS_snoc]
      have := stS_out_length p n q (by simp at h; omega)
      unfold stepS flushS
      split
      · simp; omega
      · simp only; split <;> simp <;> omega

end Go.Proofs.Ytbdkiiaiadbmbaa
