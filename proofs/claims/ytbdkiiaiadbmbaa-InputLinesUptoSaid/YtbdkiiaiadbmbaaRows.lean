/-
  No cell of these rows narrows 'for every input' (looked for: loops, veiled, ifaces, maps, wideKeys, modest, calm, conditions, laid).
  DERIVED. THE GIVEN ROWS OF THIS SEAT. 6 by the template 'for every input the law returns true; each argument reads behind the call as it read before'; 0 by the template 'total and deterministic' (their statements: YtbdkiiaiadbmbaaTotals.lean).
  GIVEN WITH THE SEED: the statements are not yours to turn. If you find one false, say at which input.
  Laid BY PROGRAM, IN A SANDBOX (cutbox-rows.mjs): the forced cells as the released guide's own fill.sh prints them over the translation 731c77f2203fb8ce… (all of the seat's roots in one cut). By AI agents, Wed Nov 11 2026. No macro, syntax, notation, axiom, sorry.
-/
import Derived.Test.YtbdkiiaiadbmbaaChecked
import GoSem.Claim
import GoSem.ClaimJoined
import GoSem.ClaimMapViews
import Derived.JoinedTies
import Derived.KernelRfl
namespace Go.Proofs.Ytbdkiiaiadbmbaa
/- THE CELL 'sum', in the pinned program and in every row, IS THE sha256 OF THE DUMP (.gsa) THAT YtbdkiiaiadbmbaaProg.lean LOADS. Nothing in Lean hashes anything: it is a label: what it is worth is what the hold of that sum in a sandbox is worth. -/
noncomputable def Try.pinned : Pinned := { name := "ytbdkiiaiadbmbaa", sum := "731c77f2203fb8ce7dd4470c323daa05c553277c53ead586534e97e8bb728d3f", checked := Try.checked }
namespace Rows
def none {H : Type} : Left H := { results := [], args := [] }

/-- 'sievelaw03.InputPlain': WHATEVER THE INPUT: true; the input reads as it did. -/
def inputPlainSpec : ChangeSpec := { name := "inputPlain", fn := fun _ => fun
  | [d] => { results := [.lit (.bool true)], args := [d] }
  | _ => none }
def inputPlainRow : OpenClaim := { program := "ytbdkiiaiadbmbaa", sum := "731c77f2203fb8ce7dd4470c323daa05c553277c53ead586534e97e8bb728d3f", func := "sieve/sievelaw03.InputPlain", spec := "inputPlain", unfollowed := true, recurses := true, apart := false }
def InputPlainSaid : Prop := inputPlainRow.holds Try.pinned (OpenSpec.ofChange inputPlainSpec)

/-- ITS FALSE NEIGHBOUR: 'it returns false'. Refute it at one input. -/
def inputPlainWrong : ChangeSpec := { name := "inputPlain", fn := fun _ => fun
  | [d] => { results := [.lit (.bool false)], args := [d] }
  | _ => none }
def InputPlainWrongFalsely : Prop := inputPlainRow.holds Try.pinned (OpenSpec.ofChange inputPlainWrong)

/-- 'sievelaw03.InputReads': WHATEVER THE INPUT: true; the input reads as it did. -/
def inputReadsSpec : ChangeSpec := { name := "inputReads", fn := fun _ => fun
  | [d] => { results := [.lit (.bool true)], args := [d] }
  | _ => none }
def inputReadsRow : OpenClaim := { program := "ytbdkiiaiadbmbaa", sum := "731c77f2203fb8ce7dd4470c323daa05c553277c53ead586534e97e8bb728d3f", func := "sieve/sievelaw03.InputReads", spec := "inputReads", unfollowed := true, recurses := true, apart := false }
def InputReadsSaid : Prop := inputReadsRow.holds Try.pinned (OpenSpec.ofChange inputReadsSpec)

/-- ITS FALSE NEIGHBOUR: 'it returns false'. Refute it at one input. -/
def inputReadsWrong : ChangeSpec := { name := "inputReads", fn := fun _ => fun
  | [d] => { results := [.lit (.bool false)], args := [d] }
  | _ => none }
def InputReadsWrongFalsely : Prop := inputReadsRow.holds Try.pinned (OpenSpec.ofChange inputReadsWrong)

/-- 'sievelaw03.InputPlaces': WHATEVER THE INPUT: true; the input reads as it did. -/
def inputPlacesSpec : ChangeSpec := { name := "inputPlaces", fn := fun _ => fun
  | [d] => { results := [.lit (.bool true)], args := [d] }
  | _ => none }
def inputPlacesRow : OpenClaim := { program := "ytbdkiiaiadbmbaa", sum := "731c77f2203fb8ce7dd4470c323daa05c553277c53ead586534e97e8bb728d3f", func := "sieve/sievelaw03.InputPlaces", spec := "inputPlaces", unfollowed := true, recurses := true, apart := false }
def InputPlacesSaid : Prop := inputPlacesRow.holds Try.pinned (OpenSpec.ofChange inputPlacesSpec)

/-- ITS FALSE NEIGHBOUR: 'it returns false'. Refute it at one input. -/
def inputPlacesWrong : ChangeSpec := { name := "inputPlaces", fn := fun _ => fun
  | [d] => { results := [.lit (.bool false)], args := [d] }
  | _ => none }
def InputPlacesWrongFalsely : Prop := inputPlacesRow.holds Try.pinned (OpenSpec.ofChange inputPlacesWrong)

/-- 'sievelaw03.InputNone': WHATEVER THE INPUT: true; the input reads as it did. -/
def inputNoneSpec : ChangeSpec := { name := "inputNone", fn := fun _ => fun
  | [d] => { results := [.lit (.bool true)], args := [d] }
  | _ => none }
def inputNoneRow : OpenClaim := { program := "ytbdkiiaiadbmbaa", sum := "731c77f2203fb8ce7dd4470c323daa05c553277c53ead586534e97e8bb728d3f", func := "sieve/sievelaw03.InputNone", spec := "inputNone", unfollowed := true, recurses := true, apart := false }
def InputNoneSaid : Prop := inputNoneRow.holds Try.pinned (OpenSpec.ofChange inputNoneSpec)

/-- ITS FALSE NEIGHBOUR: 'it returns false'. Refute it at one input. -/
def inputNoneWrong : ChangeSpec := { name := "inputNone", fn := fun _ => fun
  | [d] => { results := [.lit (.bool false)], args := [d] }
  | _ => none }
def InputNoneWrongFalsely : Prop := inputNoneRow.holds Try.pinned (OpenSpec.ofChange inputNoneWrong)

/-- 'sievelaw03.InputPieces': WHATEVER THE INPUT: true; the input reads as it did. -/
def inputPiecesSpec : ChangeSpec := { name := "inputPieces", fn := fun _ => fun
  | [d1, d2] => { results := [.lit (.bool true)], args := [d1, d2] }
  | _ => none }
def inputPiecesRow : OpenClaim := { program := "ytbdkiiaiadbmbaa", sum := "731c77f2203fb8ce7dd4470c323daa05c553277c53ead586534e97e8bb728d3f", func := "sieve/sievelaw03.InputPieces", spec := "inputPieces", unfollowed := true, recurses := true, apart := false }
def InputPiecesSaid : Prop := inputPiecesRow.holds Try.pinned (OpenSpec.ofChange inputPiecesSpec)

/-- ITS FALSE NEIGHBOUR: 'it returns false'. Refute it at one input. -/
def inputPiecesWrong : ChangeSpec := { name := "inputPieces", fn := fun _ => fun
  | [d1, d2] => { results := [.lit (.bool false)], args := [d1, d2] }
  | _ => none }
def InputPiecesWrongFalsely : Prop := inputPiecesRow.holds Try.pinned (OpenSpec.ofChange inputPiecesWrong)

/-- 'sievelaw03.InputLines': WHATEVER THE INPUT: true; the input reads as it did. -/
def inputLinesSpec : ChangeSpec := { name := "inputLines", fn := fun _ => fun
  | [d1, d2] => { results := [.lit (.bool true)], args := [d1, d2] }
  | _ => none }
def inputLinesRow : OpenClaim := { program := "ytbdkiiaiadbmbaa", sum := "731c77f2203fb8ce7dd4470c323daa05c553277c53ead586534e97e8bb728d3f", func := "sieve/sievelaw03.InputLines", spec := "inputLines", unfollowed := true, recurses := true, apart := false }
def InputLinesSaid : Prop := inputLinesRow.holds Try.pinned (OpenSpec.ofChange inputLinesSpec)

/-- ITS FALSE NEIGHBOUR: 'it returns false'. Refute it at one input. -/
def inputLinesWrong : ChangeSpec := { name := "inputLines", fn := fun _ => fun
  | [d1, d2] => { results := [.lit (.bool false)], args := [d1, d2] }
  | _ => none }
def InputLinesWrongFalsely : Prop := inputLinesRow.holds Try.pinned (OpenSpec.ofChange inputLinesWrong)

/- THE SECOND FORM. 'bulk': how many values and letters a reading holds, each counted each time it is reached (what is shared counts as often as it is met; a slice's spare places count too). A statement '..UptoSaid' is the law's where the arguments, and the package variables that the reading takes, are together of bulk at most 1048576: NARROWER than '..Said'. Prove '..Said' where nothing that the law and all that it calls make is longer than what came in: it says more and counts as full. Else prove '..UptoSaid'. A law counts once. -/
mutual
def uptoBulk {H : Type} : DataW H → Nat
  | .lit (.string bytes) => bytes.length + 1
  | .lit _ => 1
  | .nil => 1
  | .ptr d => uptoBulk d + 1
  | .slice elems spare => uptoBulkAll elems + uptoBulkAll spare + 1
  | .agg parts => uptoBulkAll parts + 1
  | .iface _ d => uptoBulk d + 1
  | .map entries => uptoBulkEntries entries + 1
  | .held _ => 1
def uptoBulkAll {H : Type} : List (DataW H) → Nat
  | [] => 0
  | d :: r => uptoBulk d + uptoBulkAll r
def uptoBulkEntries {H : Type} : List (Lit × DataW H) → Nat
  | [] => 0
  | x :: r => uptoBulkEntry x + uptoBulkEntries r
def uptoBulkEntry {H : Type} : Lit × DataW H → Nat
  | (.string bytes, d) => bytes.length + uptoBulk d + 1
  | (_, d) => uptoBulk d + 1
 end
def uptoSmall : (H : Type) → List (DataW H) → Bool := fun _ ds => decide (uptoBulkAll ds ≤ 1048576)
def OpenSpec.upto (s : _root_.Go.ChangeSpec) : _root_.Go.OpenSpec := { _root_.Go.OpenSpec.ofChange s with cond := some uptoSmall }

/-- 'sievelaw03.InputPlain', WHERE WHAT IT READS IS OF BULK AT MOST 1048576: true; the input reads as it did. -/
def inputPlainUptoRow : OpenClaim := { program := "ytbdkiiaiadbmbaa", sum := "731c77f2203fb8ce7dd4470c323daa05c553277c53ead586534e97e8bb728d3f", func := "sieve/sievelaw03.InputPlain", spec := "inputPlain", unfollowed := true, recurses := true, apart := false, narrowed := true }
def InputPlainUptoSaid : Prop := inputPlainUptoRow.holds Try.pinned (OpenSpec.upto inputPlainSpec)

/-- 'sievelaw03.InputReads', WHERE WHAT IT READS IS OF BULK AT MOST 1048576: true; the input reads as it did. -/
def inputReadsUptoRow : OpenClaim := { program := "ytbdkiiaiadbmbaa", sum := "731c77f2203fb8ce7dd4470c323daa05c553277c53ead586534e97e8bb728d3f", func := "sieve/sievelaw03.InputReads", spec := "inputReads", unfollowed := true, recurses := true, apart := false, narrowed := true }
def InputReadsUptoSaid : Prop := inputReadsUptoRow.holds Try.pinned (OpenSpec.upto inputReadsSpec)

/-- 'sievelaw03.InputPlaces', WHERE WHAT IT READS IS OF BULK AT MOST 1048576: true; the input reads as it did. -/
def inputPlacesUptoRow : OpenClaim := { program := "ytbdkiiaiadbmbaa", sum := "731c77f2203fb8ce7dd4470c323daa05c553277c53ead586534e97e8bb728d3f", func := "sieve/sievelaw03.InputPlaces", spec := "inputPlaces", unfollowed := true, recurses := true, apart := false, narrowed := true }
def InputPlacesUptoSaid : Prop := inputPlacesUptoRow.holds Try.pinned (OpenSpec.upto inputPlacesSpec)

/-- 'sievelaw03.InputNone', WHERE WHAT IT READS IS OF BULK AT MOST 1048576: true; the input reads as it did. -/
def inputNoneUptoRow : OpenClaim := { program := "ytbdkiiaiadbmbaa", sum := "731c77f2203fb8ce7dd4470c323daa05c553277c53ead586534e97e8bb728d3f", func := "sieve/sievelaw03.InputNone", spec := "inputNone", unfollowed := true, recurses := true, apart := false, narrowed := true }
def InputNoneUptoSaid : Prop := inputNoneUptoRow.holds Try.pinned (OpenSpec.upto inputNoneSpec)

/-- 'sievelaw03.InputPieces', WHERE WHAT IT READS IS OF BULK AT MOST 1048576: true; the input reads as it did. -/
def inputPiecesUptoRow : OpenClaim := { program := "ytbdkiiaiadbmbaa", sum := "731c77f2203fb8ce7dd4470c323daa05c553277c53ead586534e97e8bb728d3f", func := "sieve/sievelaw03.InputPieces", spec := "inputPieces", unfollowed := true, recurses := true, apart := false, narrowed := true }
def InputPiecesUptoSaid : Prop := inputPiecesUptoRow.holds Try.pinned (OpenSpec.upto inputPiecesSpec)

/-- 'sievelaw03.InputLines', WHERE WHAT IT READS IS OF BULK AT MOST 1048576: true; the input reads as it did. -/
def inputLinesUptoRow : OpenClaim := { program := "ytbdkiiaiadbmbaa", sum := "731c77f2203fb8ce7dd4470c323daa05c553277c53ead586534e97e8bb728d3f", func := "sieve/sievelaw03.InputLines", spec := "inputLines", unfollowed := true, recurses := true, apart := false, narrowed := true }
def InputLinesUptoSaid : Prop := inputLinesUptoRow.holds Try.pinned (OpenSpec.upto inputLinesSpec)

end Rows
end Go.Proofs.Ytbdkiiaiadbmbaa
