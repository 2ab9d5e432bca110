/-
  No cell of these rows narrows 'for every input' (looked for: loops, veiled, ifaces, maps, wideKeys, modest, calm, conditions, laid).
  DERIVED. THE GIVEN ROWS OF THIS SEAT. 9 by the template 'for every input the law returns true; each argument reads behind the call as it read before'; 0 by the template 'total and deterministic' (their statements: YtpbmgcnalhaajaaTotals.lean).
  GIVEN WITH THE SEED: the statements are not yours to turn. If you find one false, say at which input.
  Laid BY PROGRAM, IN A SANDBOX (cutbox-rows.mjs): the forced cells as the released guide's own fill.sh prints them over the translation e7ea8ddae42db7f8… (all of the seat's roots in one cut). By AI agents, Wed Nov 11 2026. No macro, syntax, notation, axiom, sorry.
-/
import Derived.Test.YtpbmgcnalhaajaaChecked
import GoSem.Claim
import GoSem.ClaimJoined
import GoSem.ClaimMapViews
import Derived.JoinedTies
import Derived.KernelRfl
namespace Go.Proofs.Ytpbmgcnalhaajaa
/- THE CELL 'sum', in the pinned program and in every row, IS THE sha256 OF THE DUMP (.gsa) THAT YtpbmgcnalhaajaaProg.lean LOADS. Nothing in Lean hashes anything: it is a label: what it is worth is what the hold of that sum in a sandbox is worth. -/
noncomputable def Try.pinned : Pinned := { name := "ytpbmgcnalhaajaa", sum := "e7ea8ddae42db7f85d63d808e1d9c51ee3c893ad90a03e6d27369595ab97536a", checked := Try.checked }
namespace Rows
def none {H : Type} : Left H := { results := [], args := [] }

/-- 'sievelaw01.UtfNames': WHATEVER THE INPUT: true; the input reads as it did. -/
def utfNamesSpec : ChangeSpec := { name := "utfNames", fn := fun _ => fun
  | [] => { results := [.lit (.bool true)], args := [] }
  | _ => none }
def utfNamesRow : OpenClaim := { program := "ytpbmgcnalhaajaa", sum := "e7ea8ddae42db7f85d63d808e1d9c51ee3c893ad90a03e6d27369595ab97536a", func := "sieve/sievelaw01.UtfNames", spec := "utfNames", unfollowed := true, recurses := true, apart := false }
def UtfNamesSaid : Prop := utfNamesRow.holds Try.pinned (OpenSpec.ofChange utfNamesSpec)

/-- ITS FALSE NEIGHBOUR: 'it returns false'. Refute it at one input. -/
def utfNamesWrong : ChangeSpec := { name := "utfNames", fn := fun _ => fun
  | [] => { results := [.lit (.bool false)], args := [] }
  | _ => none }
def UtfNamesWrongFalsely : Prop := utfNamesRow.holds Try.pinned (OpenSpec.ofChange utfNamesWrong)

/-- 'sievelaw01.UtfAll': WHATEVER THE INPUT: true; the input reads as it did. -/
def utfAllSpec : ChangeSpec := { name := "utfAll", fn := fun _ => fun
  | [d1, d2] => { results := [.lit (.bool true)], args := [d1, d2] }
  | _ => none }
def utfAllRow : OpenClaim := { program := "ytpbmgcnalhaajaa", sum := "e7ea8ddae42db7f85d63d808e1d9c51ee3c893ad90a03e6d27369595ab97536a", func := "sieve/sievelaw01.UtfAll", spec := "utfAll", unfollowed := true, recurses := true, apart := false }
def UtfAllSaid : Prop := utfAllRow.holds Try.pinned (OpenSpec.ofChange utfAllSpec)

/-- ITS FALSE NEIGHBOUR: 'it returns false'. Refute it at one input. -/
def utfAllWrong : ChangeSpec := { name := "utfAll", fn := fun _ => fun
  | [d1, d2] => { results := [.lit (.bool false)], args := [d1, d2] }
  | _ => none }
def UtfAllWrongFalsely : Prop := utfAllRow.holds Try.pinned (OpenSpec.ofChange utfAllWrong)

/-- 'sievelaw01.UtfWrites': WHATEVER THE INPUT: true; the input reads as it did. -/
def utfWritesSpec : ChangeSpec := { name := "utfWrites", fn := fun _ => fun
  | [d] => { results := [.lit (.bool true)], args := [d] }
  | _ => none }
def utfWritesRow : OpenClaim := { program := "ytpbmgcnalhaajaa", sum := "e7ea8ddae42db7f85d63d808e1d9c51ee3c893ad90a03e6d27369595ab97536a", func := "sieve/sievelaw01.UtfWrites", spec := "utfWrites", unfollowed := true, recurses := true, apart := false }
def UtfWritesSaid : Prop := utfWritesRow.holds Try.pinned (OpenSpec.ofChange utfWritesSpec)

/-- ITS FALSE NEIGHBOUR: 'it returns false'. Refute it at one input. -/
def utfWritesWrong : ChangeSpec := { name := "utfWrites", fn := fun _ => fun
  | [d] => { results := [.lit (.bool false)], args := [d] }
  | _ => none }
def UtfWritesWrongFalsely : Prop := utfWritesRow.holds Try.pinned (OpenSpec.ofChange utfWritesWrong)

/-- 'sievelaw01.UtfTurned': WHATEVER THE INPUT: true; the input reads as it did. -/
def utfTurnedSpec : ChangeSpec := { name := "utfTurned", fn := fun _ => fun
  | [d1, d2] => { results := [.lit (.bool true)], args := [d1, d2] }
  | _ => none }
def utfTurnedRow : OpenClaim := { program := "ytpbmgcnalhaajaa", sum := "e7ea8ddae42db7f85d63d808e1d9c51ee3c893ad90a03e6d27369595ab97536a", func := "sieve/sievelaw01.UtfTurned", spec := "utfTurned", unfollowed := true, recurses := true, apart := false }
def UtfTurnedSaid : Prop := utfTurnedRow.holds Try.pinned (OpenSpec.ofChange utfTurnedSpec)

/-- ITS FALSE NEIGHBOUR: 'it returns false'. Refute it at one input. -/
def utfTurnedWrong : ChangeSpec := { name := "utfTurned", fn := fun _ => fun
  | [d1, d2] => { results := [.lit (.bool false)], args := [d1, d2] }
  | _ => none }
def UtfTurnedWrongFalsely : Prop := utfTurnedRow.holds Try.pinned (OpenSpec.ofChange utfTurnedWrong)

/-- 'sievelaw01.UtfSixteen': WHATEVER THE INPUT: true; the input reads as it did. -/
def utfSixteenSpec : ChangeSpec := { name := "utfSixteen", fn := fun _ => fun
  | [d1, d2] => { results := [.lit (.bool true)], args := [d1, d2] }
  | _ => none }
def utfSixteenRow : OpenClaim := { program := "ytpbmgcnalhaajaa", sum := "e7ea8ddae42db7f85d63d808e1d9c51ee3c893ad90a03e6d27369595ab97536a", func := "sieve/sievelaw01.UtfSixteen", spec := "utfSixteen", unfollowed := true, recurses := true, apart := false }
def UtfSixteenSaid : Prop := utfSixteenRow.holds Try.pinned (OpenSpec.ofChange utfSixteenSpec)

/-- ITS FALSE NEIGHBOUR: 'it returns false'. Refute it at one input. -/
def utfSixteenWrong : ChangeSpec := { name := "utfSixteen", fn := fun _ => fun
  | [d1, d2] => { results := [.lit (.bool false)], args := [d1, d2] }
  | _ => none }
def UtfSixteenWrongFalsely : Prop := utfSixteenRow.holds Try.pinned (OpenSpec.ofChange utfSixteenWrong)

/-- 'sievelaw01.UtfNone': WHATEVER THE INPUT: true; the input reads as it did. -/
def utfNoneSpec : ChangeSpec := { name := "utfNone", fn := fun _ => fun
  | [d] => { results := [.lit (.bool true)], args := [d] }
  | _ => none }
def utfNoneRow : OpenClaim := { program := "ytpbmgcnalhaajaa", sum := "e7ea8ddae42db7f85d63d808e1d9c51ee3c893ad90a03e6d27369595ab97536a", func := "sieve/sievelaw01.UtfNone", spec := "utfNone", unfollowed := true, recurses := true, apart := false }
def UtfNoneSaid : Prop := utfNoneRow.holds Try.pinned (OpenSpec.ofChange utfNoneSpec)

/-- ITS FALSE NEIGHBOUR: 'it returns false'. Refute it at one input. -/
def utfNoneWrong : ChangeSpec := { name := "utfNone", fn := fun _ => fun
  | [d] => { results := [.lit (.bool false)], args := [d] }
  | _ => none }
def UtfNoneWrongFalsely : Prop := utfNoneRow.holds Try.pinned (OpenSpec.ofChange utfNoneWrong)

/-- 'sievelaw01.UtfPieces': WHATEVER THE INPUT: true; the input reads as it did. -/
def utfPiecesSpec : ChangeSpec := { name := "utfPieces", fn := fun _ => fun
  | [d1, d2] => { results := [.lit (.bool true)], args := [d1, d2] }
  | _ => none }
def utfPiecesRow : OpenClaim := { program := "ytpbmgcnalhaajaa", sum := "e7ea8ddae42db7f85d63d808e1d9c51ee3c893ad90a03e6d27369595ab97536a", func := "sieve/sievelaw01.UtfPieces", spec := "utfPieces", unfollowed := true, recurses := true, apart := false }
def UtfPiecesSaid : Prop := utfPiecesRow.holds Try.pinned (OpenSpec.ofChange utfPiecesSpec)

/-- ITS FALSE NEIGHBOUR: 'it returns false'. Refute it at one input. -/
def utfPiecesWrong : ChangeSpec := { name := "utfPieces", fn := fun _ => fun
  | [d1, d2] => { results := [.lit (.bool false)], args := [d1, d2] }
  | _ => none }
def UtfPiecesWrongFalsely : Prop := utfPiecesRow.holds Try.pinned (OpenSpec.ofChange utfPiecesWrong)

/-- 'sievelaw01.UtfReads': WHATEVER THE INPUT: true; the input reads as it did. -/
def utfReadsSpec : ChangeSpec := { name := "utfReads", fn := fun _ => fun
  | [d1, d2] => { results := [.lit (.bool true)], args := [d1, d2] }
  | _ => none }
def utfReadsRow : OpenClaim := { program := "ytpbmgcnalhaajaa", sum := "e7ea8ddae42db7f85d63d808e1d9c51ee3c893ad90a03e6d27369595ab97536a", func := "sieve/sievelaw01.UtfReads", spec := "utfReads", unfollowed := true, recurses := true, apart := false }
def UtfReadsSaid : Prop := utfReadsRow.holds Try.pinned (OpenSpec.ofChange utfReadsSpec)

/-- ITS FALSE NEIGHBOUR: 'it returns false'. Refute it at one input. -/
def utfReadsWrong : ChangeSpec := { name := "utfReads", fn := fun _ => fun
  | [d1, d2] => { results := [.lit (.bool false)], args := [d1, d2] }
  | _ => none }
def UtfReadsWrongFalsely : Prop := utfReadsRow.holds Try.pinned (OpenSpec.ofChange utfReadsWrong)

/-- 'sievelaw01.UtfBack': WHATEVER THE INPUT: true; the input reads as it did. -/
def utfBackSpec : ChangeSpec := { name := "utfBack", fn := fun _ => fun
  | [d1, d2] => { results := [.lit (.bool true)], args := [d1, d2] }
  | _ => none }
def utfBackRow : OpenClaim := { program := "ytpbmgcnalhaajaa", sum := "e7ea8ddae42db7f85d63d808e1d9c51ee3c893ad90a03e6d27369595ab97536a", func := "sieve/sievelaw01.UtfBack", spec := "utfBack", unfollowed := true, recurses := true, apart := false }
def UtfBackSaid : Prop := utfBackRow.holds Try.pinned (OpenSpec.ofChange utfBackSpec)

/-- ITS FALSE NEIGHBOUR: 'it returns false'. Refute it at one input. -/
def utfBackWrong : ChangeSpec := { name := "utfBack", fn := fun _ => fun
  | [d1, d2] => { results := [.lit (.bool false)], args := [d1, d2] }
  | _ => none }
def UtfBackWrongFalsely : Prop := utfBackRow.holds Try.pinned (OpenSpec.ofChange utfBackWrong)

/- THE SECOND FORM. 'bulk': how many values and letters a reading holds, each counted each time it is reached (what is shared counts as often as it is met; a slice's spare places count too). A statement '..UptoSaid' is the law's where the arguments, and the package variables that the reading takes, are together of bulk at most 1048576: NARROWER than '..Said'. Prove '..Said' where nothing that the law and all that it calls make is longer than what came in: it says more and counts as full. Else prove '..UptoSaid'. A law counts once. -/
mutual
def uptoBulk {H : Type} : DataW H → Nat
  | .lit (.string bytes) => bytes.length + 1
  | .lit _ => 1
  | .nil => 1
  | .ptr d => uptoBulk d + 1
  | .slice elems spare => uptoBulkAll elems + uptoBulkAll spare + 1
  | .agg parts => uptoBulkAll parts + 1
  | .iface _ d => uptoBulk d + 1
  | .map entries => uptoBulkEntries entries + 1
  | .held _ => 1
def uptoBulkAll {H : Type} : List (DataW H) → Nat
  | [] => 0
  | d :: r => uptoBulk d + uptoBulkAll r
def uptoBulkEntries {H : Type} : List (Lit × DataW H) → Nat
  | [] => 0
  | x :: r => uptoBulkEntry x + uptoBulkEntries r
def uptoBulkEntry {H : Type} : Lit × DataW H → Nat
  | (.string bytes, d) => bytes.length + uptoBulk d + 1
  | (_, d) => uptoBulk d + 1
 end
def uptoSmall : (H : Type) → List (DataW H) → Bool := fun _ ds => decide (uptoBulkAll ds ≤ 1048576)
def OpenSpec.upto (s : _root_.Go.ChangeSpec) : _root_.Go.OpenSpec := { _root_.Go.OpenSpec.ofChange s with cond := some uptoSmall }

/-- 'sievelaw01.UtfNames', WHERE WHAT IT READS IS OF BULK AT MOST 1048576: true; the input reads as it did. -/
def utfNamesUptoRow : OpenClaim := { program := "ytpbmgcnalhaajaa", sum := "e7ea8ddae42db7f85d63d808e1d9c51ee3c893ad90a03e6d27369595ab97536a", func := "sieve/sievelaw01.UtfNames", spec := "utfNames", unfollowed := true, recurses := true, apart := false, narrowed := true }
def UtfNamesUptoSaid : Prop := utfNamesUptoRow.holds Try.pinned (OpenSpec.upto utfNamesSpec)

/-- 'sievelaw01.UtfAll', WHERE WHAT IT READS IS OF BULK AT MOST 1048576: true; the input reads as it did. -/
def utfAllUptoRow : OpenClaim := { program := "ytpbmgcnalhaajaa", sum := "e7ea8ddae42db7f85d63d808e1d9c51ee3c893ad90a03e6d27369595ab97536a", func := "sieve/sievelaw01.UtfAll", spec := "utfAll", unfollowed := true, recurses := true, apart := false, narrowed := true }
def UtfAllUptoSaid : Prop := utfAllUptoRow.holds Try.pinned (OpenSpec.upto utfAllSpec)

/-- 'sievelaw01.UtfWrites', WHERE WHAT IT READS IS OF BULK AT MOST 1048576: true; the input reads as it did. -/
def utfWritesUptoRow : OpenClaim := { program := "ytpbmgcnalhaajaa", sum := "e7ea8ddae42db7f85d63d808e1d9c51ee3c893ad90a03e6d27369595ab97536a", func := "sieve/sievelaw01.UtfWrites", spec := "utfWrites", unfollowed := true, recurses := true, apart := false, narrowed := true }
def UtfWritesUptoSaid : Prop := utfWritesUptoRow.holds Try.pinned (OpenSpec.upto utfWritesSpec)

/-- 'sievelaw01.UtfTurned', WHERE WHAT IT READS IS OF BULK AT MOST 1048576: true; the input reads as it did. -/
def utfTurnedUptoRow : OpenClaim := { program := "ytpbmgcnalhaajaa", sum := "e7ea8ddae42db7f85d63d808e1d9c51ee3c893ad90a03e6d27369595ab97536a", func := "sieve/sievelaw01.UtfTurned", spec := "utfTurned", unfollowed := true, recurses := true, apart := false, narrowed := true }
def UtfTurnedUptoSaid : Prop := utfTurnedUptoRow.holds Try.pinned (OpenSpec.upto utfTurnedSpec)

/-- 'sievelaw01.UtfSixteen', WHERE WHAT IT READS IS OF BULK AT MOST 1048576: true; the input reads as it did. -/
def utfSixteenUptoRow : OpenClaim := { program := "ytpbmgcnalhaajaa", sum := "e7ea8ddae42db7f85d63d808e1d9c51ee3c893ad90a03e6d27369595ab97536a", func := "sieve/sievelaw01.UtfSixteen", spec := "utfSixteen", unfollowed := true, recurses := true, apart := false, narrowed := true }
def UtfSixteenUptoSaid : Prop := utfSixteenUptoRow.holds Try.pinned (OpenSpec.upto utfSixteenSpec)

/-- 'sievelaw01.UtfNone', WHERE WHAT IT READS IS OF BULK AT MOST 1048576: true; the input reads as it did. -/
def utfNoneUptoRow : OpenClaim := { program := "ytpbmgcnalhaajaa", sum := "e7ea8ddae42db7f85d63d808e1d9c51ee3c893ad90a03e6d27369595ab97536a", func := "sieve/sievelaw01.UtfNone", spec := "utfNone", unfollowed := true, recurses := true, apart := false, narrowed := true }
def UtfNoneUptoSaid : Prop := utfNoneUptoRow.holds Try.pinned (OpenSpec.upto utfNoneSpec)

/-- 'sievelaw01.UtfPieces', WHERE WHAT IT READS IS OF BULK AT MOST 1048576: true; the input reads as it did. -/
def utfPiecesUptoRow : OpenClaim := { program := "ytpbmgcnalhaajaa", sum := "e7ea8ddae42db7f85d63d808e1d9c51ee3c893ad90a03e6d27369595ab97536a", func := "sieve/sievelaw01.UtfPieces", spec := "utfPieces", unfollowed := true, recurses := true, apart := false, narrowed := true }
def UtfPiecesUptoSaid : Prop := utfPiecesUptoRow.holds Try.pinned (OpenSpec.upto utfPiecesSpec)

/-- 'sievelaw01.UtfReads', WHERE WHAT IT READS IS OF BULK AT MOST 1048576: true; the input reads as it did. -/
def utfReadsUptoRow : OpenClaim := { program := "ytpbmgcnalhaajaa", sum := "e7ea8ddae42db7f85d63d808e1d9c51ee3c893ad90a03e6d27369595ab97536a", func := "sieve/sievelaw01.UtfReads", spec := "utfReads", unfollowed := true, recurses := true, apart := false, narrowed := true }
def UtfReadsUptoSaid : Prop := utfReadsUptoRow.holds Try.pinned (OpenSpec.upto utfReadsSpec)

/-- 'sievelaw01.UtfBack', WHERE WHAT IT READS IS OF BULK AT MOST 1048576: true; the input reads as it did. -/
def utfBackUptoRow : OpenClaim := { program := "ytpbmgcnalhaajaa", sum := "e7ea8ddae42db7f85d63d808e1d9c51ee3c893ad90a03e6d27369595ab97536a", func := "sieve/sievelaw01.UtfBack", spec := "utfBack", unfollowed := true, recurses := true, apart := false, narrowed := true }
def UtfBackUptoSaid : Prop := utfBackUptoRow.holds Try.pinned (OpenSpec.upto utfBackSpec)

end Rows
end Go.Proofs.Ytpbmgcnalhaajaa
