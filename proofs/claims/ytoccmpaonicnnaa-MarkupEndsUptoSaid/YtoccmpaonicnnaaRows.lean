/-
  No cell of these rows narrows 'for every input' (looked for: loops, veiled, ifaces, maps, wideKeys, modest, calm, conditions, laid).
  DERIVED. THE GIVEN ROWS OF THIS SEAT. 5 by the template 'for every input the law returns true; each argument reads behind the call as it read before'; 0 by the template 'total and deterministic' (their statements: YtoccmpaonicnnaaTotals.lean).
  GIVEN WITH THE SEED: the statements are not yours to turn. If you find one false, say at which input.
  Laid BY PROGRAM, IN A SANDBOX (cutbox-rows.mjs): the forced cells as the released guide's own fill.sh prints them over the translation 57b32a4f8a603d5e… (all of the seat's roots in one cut). By AI agents, Wed Nov 11 2026. No macro, syntax, notation, axiom, sorry.
-/
import Derived.Test.YtoccmpaonicnnaaChecked
import GoSem.Claim
import GoSem.ClaimJoined
import GoSem.ClaimMapViews
import Derived.JoinedTies
import Derived.KernelRfl
namespace Go.Proofs.Ytoccmpaonicnnaa
/- THE CELL 'sum', in the pinned program and in every row, IS THE sha256 OF THE DUMP (.gsa) THAT YtoccmpaonicnnaaProg.lean LOADS. Nothing in Lean hashes anything: it is a label: what it is worth is what the hold of that sum in a sandbox is worth. -/
noncomputable def Try.pinned : Pinned := { name := "ytoccmpaonicnnaa", sum := "57b32a4f8a603d5e20f634fc4dd4c1a79409242fd776b344c96f2ac1e6f7202d", checked := Try.checked }
namespace Rows
def none {H : Type} : Left H := { results := [], args := [] }

/-- 'sievelaw09.MarkupOpens': WHATEVER THE INPUT: true; the input reads as it did. -/
def markupOpensSpec : ChangeSpec := { name := "markupOpens", fn := fun _ => fun
  | [d] => { results := [.lit (.bool true)], args := [d] }
  | _ => none }
def markupOpensRow : OpenClaim := { program := "ytoccmpaonicnnaa", sum := "57b32a4f8a603d5e20f634fc4dd4c1a79409242fd776b344c96f2ac1e6f7202d", func := "sieve/sievelaw09.MarkupOpens", spec := "markupOpens", unfollowed := true, recurses := true, apart := false }
def MarkupOpensSaid : Prop := markupOpensRow.holds Try.pinned (OpenSpec.ofChange markupOpensSpec)

/-- ITS FALSE NEIGHBOUR: 'it returns false'. Refute it at one input. -/
def markupOpensWrong : ChangeSpec := { name := "markupOpens", fn := fun _ => fun
  | [d] => { results := [.lit (.bool false)], args := [d] }
  | _ => none }
def MarkupOpensWrongFalsely : Prop := markupOpensRow.holds Try.pinned (OpenSpec.ofChange markupOpensWrong)

/-- 'sievelaw09.MarkupWholes': WHATEVER THE INPUT: true; the input reads as it did. -/
def markupWholesSpec : ChangeSpec := { name := "markupWholes", fn := fun _ => fun
  | [d1, d2] => { results := [.lit (.bool true)], args := [d1, d2] }
  | _ => none }
def markupWholesRow : OpenClaim := { program := "ytoccmpaonicnnaa", sum := "57b32a4f8a603d5e20f634fc4dd4c1a79409242fd776b344c96f2ac1e6f7202d", func := "sieve/sievelaw09.MarkupWholes", spec := "markupWholes", unfollowed := true, recurses := true, apart := false }
def MarkupWholesSaid : Prop := markupWholesRow.holds Try.pinned (OpenSpec.ofChange markupWholesSpec)

/-- ITS FALSE NEIGHBOUR: 'it returns false'. Refute it at one input. -/
def markupWholesWrong : ChangeSpec := { name := "markupWholes", fn := fun _ => fun
  | [d1, d2] => { results := [.lit (.bool false)], args := [d1, d2] }
  | _ => none }
def MarkupWholesWrongFalsely : Prop := markupWholesRow.holds Try.pinned (OpenSpec.ofChange markupWholesWrong)

/-- 'sievelaw09.MarkupRunes': WHATEVER THE INPUT: true; the input reads as it did. -/
def markupRunesSpec : ChangeSpec := { name := "markupRunes", fn := fun _ => fun
  | [d1, d2] => { results := [.lit (.bool true)], args := [d1, d2] }
  | _ => none }
def markupRunesRow : OpenClaim := { program := "ytoccmpaonicnnaa", sum := "57b32a4f8a603d5e20f634fc4dd4c1a79409242fd776b344c96f2ac1e6f7202d", func := "sieve/sievelaw09.MarkupRunes", spec := "markupRunes", unfollowed := true, recurses := true, apart := false }
def MarkupRunesSaid : Prop := markupRunesRow.holds Try.pinned (OpenSpec.ofChange markupRunesSpec)

/-- ITS FALSE NEIGHBOUR: 'it returns false'. Refute it at one input. -/
def markupRunesWrong : ChangeSpec := { name := "markupRunes", fn := fun _ => fun
  | [d1, d2] => { results := [.lit (.bool false)], args := [d1, d2] }
  | _ => none }
def MarkupRunesWrongFalsely : Prop := markupRunesRow.holds Try.pinned (OpenSpec.ofChange markupRunesWrong)

/-- 'sievelaw09.MarkupNone': WHATEVER THE INPUT: true; the input reads as it did. -/
def markupNoneSpec : ChangeSpec := { name := "markupNone", fn := fun _ => fun
  | [d] => { results := [.lit (.bool true)], args := [d] }
  | _ => none }
def markupNoneRow : OpenClaim := { program := "ytoccmpaonicnnaa", sum := "57b32a4f8a603d5e20f634fc4dd4c1a79409242fd776b344c96f2ac1e6f7202d", func := "sieve/sievelaw09.MarkupNone", spec := "markupNone", unfollowed := true, recurses := true, apart := false }
def MarkupNoneSaid : Prop := markupNoneRow.holds Try.pinned (OpenSpec.ofChange markupNoneSpec)

/-- ITS FALSE NEIGHBOUR: 'it returns false'. Refute it at one input. -/
def markupNoneWrong : ChangeSpec := { name := "markupNone", fn := fun _ => fun
  | [d] => { results := [.lit (.bool false)], args := [d] }
  | _ => none }
def MarkupNoneWrongFalsely : Prop := markupNoneRow.holds Try.pinned (OpenSpec.ofChange markupNoneWrong)

/-- 'sievelaw09.MarkupEnds': WHATEVER THE INPUT: true; the input reads as it did. -/
def markupEndsSpec : ChangeSpec := { name := "markupEnds", fn := fun _ => fun
  | [d1, d2] => { results := [.lit (.bool true)], args := [d1, d2] }
  | _ => none }
def markupEndsRow : OpenClaim := { program := "ytoccmpaonicnnaa", sum := "57b32a4f8a603d5e20f634fc4dd4c1a79409242fd776b344c96f2ac1e6f7202d", func := "sieve/sievelaw09.MarkupEnds", spec := "markupEnds", unfollowed := true, recurses := true, apart := false }
def MarkupEndsSaid : Prop := markupEndsRow.holds Try.pinned (OpenSpec.ofChange markupEndsSpec)

/-- ITS FALSE NEIGHBOUR: 'it returns false'. Refute it at one input. -/
def markupEndsWrong : ChangeSpec := { name := "markupEnds", fn := fun _ => fun
  | [d1, d2] => { results := [.lit (.bool false)], args := [d1, d2] }
  | _ => none }
def MarkupEndsWrongFalsely : Prop := markupEndsRow.holds Try.pinned (OpenSpec.ofChange markupEndsWrong)

/- THE SECOND FORM. 'bulk': how many values and letters a reading holds, each counted each time it is reached (what is shared counts as often as it is met; a slice's spare places count too). A statement '..UptoSaid' is the law's where the arguments, and the package variables that the reading takes, are together of bulk at most 1048576: NARROWER than '..Said'. Prove '..Said' where nothing that the law and all that it calls make is longer than what came in: it says more and counts as full. Else prove '..UptoSaid'. A law counts once. -/
mutual
def uptoBulk {H : Type} : DataW H → Nat
  | .lit (.string bytes) => bytes.length + 1
  | .lit _ => 1
  | .nil => 1
  | .ptr d => uptoBulk d + 1
  | .slice elems spare => uptoBulkAll elems + uptoBulkAll spare + 1
  | .agg parts => uptoBulkAll parts + 1
  | .iface _ d => uptoBulk d + 1
  | .map entries => uptoBulkEntries entries + 1
  | .held _ => 1
def uptoBulkAll {H : Type} : List (DataW H) → Nat
  | [] => 0
  | d :: r => uptoBulk d + uptoBulkAll r
def uptoBulkEntries {H : Type} : List (Lit × DataW H) → Nat
  | [] => 0
  | x :: r => uptoBulkEntry x + uptoBulkEntries r
def uptoBulkEntry {H : Type} : Lit × DataW H → Nat
  | (.string bytes, d) => bytes.length + uptoBulk d + 1
  | (_, d) => uptoBulk d + 1
 end
def uptoSmall : (H : Type) → List (DataW H) → Bool := fun _ ds => decide (uptoBulkAll ds ≤ 1048576)
def OpenSpec.upto (s : _root_.Go.ChangeSpec) : _root_.Go.OpenSpec := { _root_.Go.OpenSpec.ofChange s with cond := some uptoSmall }

/-- 'sievelaw09.MarkupOpens', WHERE WHAT IT READS IS OF BULK AT MOST 1048576: true; the input reads as it did. -/
def markupOpensUptoRow : OpenClaim := { program := "ytoccmpaonicnnaa", sum := "57b32a4f8a603d5e20f634fc4dd4c1a79409242fd776b344c96f2ac1e6f7202d", func := "sieve/sievelaw09.MarkupOpens", spec := "markupOpens", unfollowed := true, recurses := true, apart := false, narrowed := true }
def MarkupOpensUptoSaid : Prop := markupOpensUptoRow.holds Try.pinned (OpenSpec.upto markupOpensSpec)

/-- 'sievelaw09.MarkupWholes', WHERE WHAT IT READS IS OF BULK AT MOST 1048576: true; the input reads as it did. -/
def markupWholesUptoRow : OpenClaim := { program := "ytoccmpaonicnnaa", sum := "57b32a4f8a603d5e20f634fc4dd4c1a79409242fd776b344c96f2ac1e6f7202d", func := "sieve/sievelaw09.MarkupWholes", spec := "markupWholes", unfollowed := true, recurses := true, apart := false, narrowed := true }
def MarkupWholesUptoSaid : Prop := markupWholesUptoRow.holds Try.pinned (OpenSpec.upto markupWholesSpec)

/-- 'sievelaw09.MarkupRunes', WHERE WHAT IT READS IS OF BULK AT MOST 1048576: true; the input reads as it did. -/
def markupRunesUptoRow : OpenClaim := { program := "ytoccmpaonicnnaa", sum := "57b32a4f8a603d5e20f634fc4dd4c1a79409242fd776b344c96f2ac1e6f7202d", func := "sieve/sievelaw09.MarkupRunes", spec := "markupRunes", unfollowed := true, recurses := true, apart := false, narrowed := true }
def MarkupRunesUptoSaid : Prop := markupRunesUptoRow.holds Try.pinned (OpenSpec.upto markupRunesSpec)

/-- 'sievelaw09.MarkupNone', WHERE WHAT IT READS IS OF BULK AT MOST 1048576: true; the input reads as it did. -/
def markupNoneUptoRow : OpenClaim := { program := "ytoccmpaonicnnaa", sum := "57b32a4f8a603d5e20f634fc4dd4c1a79409242fd776b344c96f2ac1e6f7202d", func := "sieve/sievelaw09.MarkupNone", spec := "markupNone", unfollowed := true, recurses := true, apart := false, narrowed := true }
def MarkupNoneUptoSaid : Prop := markupNoneUptoRow.holds Try.pinned (OpenSpec.upto markupNoneSpec)

/-- 'sievelaw09.MarkupEnds', WHERE WHAT IT READS IS OF BULK AT MOST 1048576: true; the input reads as it did. -/
def markupEndsUptoRow : OpenClaim := { program := "ytoccmpaonicnnaa", sum := "57b32a4f8a603d5e20f634fc4dd4c1a79409242fd776b344c96f2ac1e6f7202d", func := "sieve/sievelaw09.MarkupEnds", spec := "markupEnds", unfollowed := true, recurses := true, apart := false, narrowed := true }
def MarkupEndsUptoSaid : Prop := markupEndsUptoRow.holds Try.pinned (OpenSpec.upto markupEndsSpec)

end Rows
end Go.Proofs.Ytoccmpaonicnnaa
