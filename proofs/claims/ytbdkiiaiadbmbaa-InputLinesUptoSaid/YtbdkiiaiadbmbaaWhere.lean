/- input.Where and the reference's. -/
import Derived.Test.YtbdkiiaiadbmbaaInRefB
import Derived.Test.YtbdkiiaiadbmbaaInSu
import Derived.Test.YtbdkiiaiadbmbaaOwnIn
namespace Go.Proofs.Ytbdkiiaiadbmbaa
open Go.RowKit
set_option linter.unusedVariables false
set_option linter.unusedSimpArgs false

/-- a place in a block of its own -/
def PlA (w : World) (A : Nat) (p : Pl) : Prop := w.heap[A]? = some (.cells #[.int .i64 p.b, .int .i64 p.l, .int .i64 p.c] 34)
theorem PlA.lt {w : World} {A : Nat} {p : Pl} (h : PlA w A p) : A < w.heap.size := (Array.getElem?_eq_some_iff.1 h).1
theorem PlA.of {w w' : World} {A : Nat} {p : Pl} (h : PlA w A p) (hb : w'.heap[A]? = w.heap[A]?) : PlA w' A p := hb.trans h
theorem PlA.cells {w : World} {A : Nat} {p : Pl} (h : PlA w A p) : w.cell? ⟨A, 0, none⟩ = some (.int .i64 p.b) ∧ w.cell? ⟨A, 1, none⟩ = some (.int .i64 p.l) ∧ w.cell? ⟨A, 2, none⟩ = some (.int .i64 p.c) ∧
    w.frozen? ⟨A, 0, none⟩ = false ∧ w.frozen? ⟨A, 1, none⟩ = false ∧ w.frozen? ⟨A, 2, none⟩ = false := by
  unfold PlA at h
  simp [World.cell?, World.frozen?, h]
theorem PlA.set {w : World} {A : Nat} {p : Pl} (h : PlA w A p) (a b c : Int) : PlA (((w.setCell ⟨A, 0, none⟩ (.int .i64 a)).setCell ⟨A, 1, none⟩ (.int .i64 b)).setCell ⟨A, 2, none⟩ (.int .i64 c)) A ⟨a, b, c⟩ := by
  unfold PlA at h ⊢
  simp [World.setCell, Array.getElem?_modify, h]
theorem frm_set3 {w : World} (A : Nat) (a b c : Value) : Frm (fun i => i = A) w (((w.setCell ⟨A, 0, none⟩ a).setCell ⟨A, 1, none⟩ b).setCell ⟨A, 2, none⟩ c) :=
  ((Frm.setCell (S := fun i => i = A) w ⟨A, 0, none⟩ _ rfl).trans (Frm.setCell (S := fun i => i = A) _ ⟨A, 1, none⟩ _ rfl) (fun _ _ h => h)).trans (Frm.setCell (S := fun i => i = A) _ ⟨A, 2, none⟩ _ rfl) (fun _ _ h => h)

/-- the last cell that does not stand behind n -/
def hereF (n : Int) : List Cl → Pl → Pl
  | [], h => h
  | c :: t, h => hereF n t (if c.p.b ≤ n then c.p else h)
def whereR (n : Int) : List Cl → Pl → Pl
  | [], h => h
  | c :: t, h => if n < c.p.b then h else whereR n t c.p
theorem mv_b (p : Pl) (r n : Int) : (mv p r n).b = p.b + n := by unfold mv; split <;> rfl
theorem here_keep (n : Int) : ∀ (G : List (Int × Nat)) (p h : Pl), n < p.b → hereF n (cl G p) h = h
  | [], p, h, _ => rfl
  | x :: G, p, h, hn => by
    simp only [cl, hereF]
    rw [if_neg (by omega)]
    exact here_keep n G _ h (by rw [mv_b]; omega)
theorem here_where (n : Int) : ∀ (G : List (Int × Nat)) (p h : Pl), hereF n (cl G p) h = whereR n (cl G p) h
  | [], p, h => rfl
  | x :: G, p, h => by
    simp only [cl, hereF, whereR]
    by_cases hn : n < p.b
    · rw [if_neg (by omega), if_pos hn]
      exact here_keep n G _ h (by rw [mv_b]; omega)
    · rw [if_pos (by omega), if_neg hn]
      exact here_where n G _ p
theorem hereF_snoc (n : Int) : ∀ (L : List Cl) (c : Cl) (h : Pl), hereF n (L ++ [c]) h = if c.p.b ≤ n then c.p else hereF n L h
  | [], c, h => rfl
  | d :: L, c, h => by simp only [List.cons_append, hereF]; exact hereF_snoc n L c _
/-- what the reference goes on to -/
def stepP (len : Int) (c : Cl) : Pl := if c.r = 10 then ⟨len, c.p.l + 1, 1⟩ else ⟨len, c.p.l, c.p.c + 1⟩
def endF (len : Int) : List Cl → Pl → Pl
  | [], q => q
  | c :: t, q => endF len t (stepP len c)
theorem endF_snoc (len : Int) : ∀ (L : List Cl) (c : Cl) (q : Pl), endF len (L ++ [c]) q = stepP len c
  | [], c, q => rfl
  | d :: L, c, q => by simp only [List.cons_append, endF]; exact endF_snoc len L c _
theorem endF_pl (len : Int) : ∀ (G : List (Int × Nat)) (p q : Pl), G ≠ [] → endF len (cl G p) q = ⟨len, (pl G p).l, (pl G p).c⟩
  | [], p, q, h => absurd rfl h
  | [x], p, q, _ => by
    simp only [cl, endF, pl, stepP, mv]
    split <;> rfl
  | x :: y :: G, p, q, _ => by
    have := endF_pl len (y :: G) (mv p x.1 x.2) (stepP len ⟨x.1, p⟩) (by simp)
    simp only [cl, endF, pl] at this ⊢
    exact this
theorem pl_b : ∀ (G : List (Int × Nat)) (p : Pl), (pl G p).b = p.b + sumw G
  | [], p => by simp [pl, sumw]
  | x :: G, p => by simp only [pl, sumw]; rw [pl_b G, mv_b]; omega
theorem end_place (xs : List Int) : endF xs.length (readOf xs) pl0 = pl (gr (wd xs)) pl0 := by
  have hs : sumw (gr (wd xs)) = xs.length := by rw [gr_sum]; exact (wdAt_sum xs _ 0 (Nat.le_refl _) (Nat.zero_le _)).1
  have hb := pl_b (gr (wd xs)) pl0
  by_cases h : gr (wd xs) = []
  · unfold readOf; rw [h]; rfl
  · unfold readOf
    rw [endF_pl _ _ _ _ h]
    rw [hs, show pl0.b = 0 from rfl, Int.zero_add] at hb
    rw [← hb]
def lastP (L : List Cl) (q : Pl) : Pl := match L.getLast? with | some c => c.p | none => q
theorem lastP_snoc (L : List Cl) (c : Cl) (q : Pl) : lastP (L ++ [c]) q = c.p := by simp [lastP]
theorem where_more (n : Int) : ∀ (L M : List Cl) (q : Pl), (∀ c ∈ L, ¬ n < c.p.b) → whereR n (L ++ M) q = whereR n M (lastP L q)
  | [], M, q, _ => rfl
  | c :: L, M, q, h => by
    simp only [List.cons_append, whereR]
    rw [if_neg (h c (by simp)), where_more n L M c.p (fun d hd => h d (by simp [hd]))]
    cases L with
    | nil => rfl
    | cons d L => simp [lastP, List.getLast?_cons]

theorem read_head {xs : List Int} {c : Cl} (h : (readOf xs)[0]? = some c) : c.p = pl0 := cl_head h
theorem read_zero {xs : List Int} (h : 0 < xs.length) : 0 < (readOf xs).length := by
  unfold readOf
  rw [cl_length, wd_cons h]
  cases wd (xs.drop (rd xs).2.1) with
  | nil => simp [gr]
  | cons y t => simp only [gr]; split <;> simp

theorem where_bad (v : Value) (xs : List Int) (n : Int) (w : World) {B : Nat} {w0 : World} (hs : SlI .u8 B w0 v xs) (h : n < 0 ∨ (xs.length : Int) < n) :
    Calls Try.prog 31 #[v, .int .i64 n] w fun e w' => e = .returned (.tuple #[.agg #[.int .i64 0, .int .i64 0, .int .i64 0], .int .i64 1]) ∧ Below w.heap.size w w' := by
  obtain ⟨ao, cap, rfl, _, _, _⟩ := hs
  rcases h with h | h
  · go_enter Try.func31, Try.ntmps31
    go_wp2
    refine bodyPost_ret (v := .tuple #[.agg #[.int .i64 0, .int .i64 0, .int .i64 0], .int .i64 1]) (by simp [results, Try.results31, go_sem]; first | done | rfl) rfl ⟨rfl, (Below.refl _ _).alloc (Nat.le_refl _) _⟩
  · have h0 : ¬ n < 0 := by omega
    go_enter Try.func31, Try.ntmps31
    go_wp2
    refine bodyPost_ret (v := .tuple #[.agg #[.int .i64 0, .int .i64 0, .int .i64 0], .int .i64 1]) (by simp [results, Try.results31, go_sem]; first | done | rfl) rfl ⟨rfl, (Below.refl _ _).alloc (Nat.le_refl _) _⟩
theorem refwhere_bad (v : Value) (xs : List Int) (n : Int) (w : World) {B : Nat} {w0 : World} (hs : SlI .u8 B w0 v xs) (h : n < 0 ∨ (xs.length : Int) < n) :
    Calls Try.prog 32 #[v, .int .i64 n] w fun e w' => e = .returned (.tuple #[.agg #[.int .i64 0, .int .i64 0, .int .i64 0], .bool false]) ∧ Below w.heap.size w w' := by
  obtain ⟨ao, cap, rfl, _, _, _⟩ := hs
  rcases h with h | h
  · go_enter Try.func32, Try.ntmps32
    go_wp2
    refine bodyPost_ret (v := .tuple #[.agg #[.int .i64 0, .int .i64 0, .int .i64 0], .bool false]) (by simp [results, Try.results32, go_sem]; first | done | rfl) rfl ⟨rfl, (Below.refl _ _).alloc (Nat.le_refl _) _⟩
  · have h0 : ¬ n < 0 := by omega
    go_enter Try.func32, Try.ntmps32
    go_wp2
    refine bodyPost_ret (v := .tuple #[.agg #[.int .i64 0, .int .i64 0, .int .i64 0], .bool false]) (by simp [results, Try.results32, go_sem]; first | done | rfl) rfl ⟨rfl, (Below.refl _ _).alloc (Nat.le_refl _) _⟩

end Go.Proofs.Ytbdkiiaiadbmbaa
