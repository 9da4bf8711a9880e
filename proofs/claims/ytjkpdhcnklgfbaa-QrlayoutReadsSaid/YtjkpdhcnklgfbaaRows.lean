/-
  No cell of these rows narrows 'for every input' (looked for: loops, veiled, ifaces, maps, wideKeys, modest, calm, conditions, laid).
  DERIVED. THE GIVEN ROWS OF THIS SEAT. 7 by the template 'for every input the law returns true; each argument reads behind the call as it read before'; 0 by the template 'total and deterministic' (their statements: YtjkpdhcnklgfbaaTotals.lean).
  GIVEN WITH THE SEED: the statements are not yours to turn. If you find one false, say at which input.
  Laid BY PROGRAM, IN A SANDBOX (cutbox-rows.mjs): the forced cells as the released guide's own fill.sh prints them over the translation 22907cf771bd11d9… (all of the seat's roots in one cut). By AI agents, Wed Nov 11 2026. No macro, syntax, notation, axiom, sorry.
-/
import Derived.Test.YtjkpdhcnklgfbaaChecked
import GoSem.Claim
import GoSem.ClaimJoined
import GoSem.ClaimMapViews
import Derived.JoinedTies
import Derived.KernelRfl
namespace Go.Proofs.Ytjkpdhcnklgfbaa
/- THE CELL 'sum', in the pinned program and in every row, IS THE sha256 OF THE DUMP (.gsa) THAT YtjkpdhcnklgfbaaProg.lean LOADS. Nothing in Lean hashes anything: it is a label: what it is worth is what the hold of that sum in a sandbox is worth. -/
noncomputable def Try.pinned : Pinned := { name := "ytjkpdhcnklgfbaa", sum := "22907cf771bd11d947e8793899ebc1660173f6b2e53b528a664f63324039b0a3", checked := Try.checked }
namespace Rows
def none {H : Type} : Left H := { results := [], args := [] }

/-- 'barscanlaw20.QrlayoutBlanks': WHATEVER THE INPUT: true; the input reads as it did. -/
def qrlayoutBlanksSpec : ChangeSpec := { name := "qrlayoutBlanks", fn := fun _ => fun
  | [d1, d2] => { results := [.lit (.bool true)], args := [d1, d2] }
  | _ => none }
def qrlayoutBlanksRow : OpenClaim := { program := "ytjkpdhcnklgfbaa", sum := "22907cf771bd11d947e8793899ebc1660173f6b2e53b528a664f63324039b0a3", func := "barscan/barscanlaw20.QrlayoutBlanks", spec := "qrlayoutBlanks", unfollowed := true, recurses := true, apart := false }
def QrlayoutBlanksSaid : Prop := qrlayoutBlanksRow.holds Try.pinned (OpenSpec.ofChange qrlayoutBlanksSpec)

/-- ITS FALSE NEIGHBOUR: 'it returns false'. Refute it at one input. -/
def qrlayoutBlanksWrong : ChangeSpec := { name := "qrlayoutBlanks", fn := fun _ => fun
  | [d1, d2] => { results := [.lit (.bool false)], args := [d1, d2] }
  | _ => none }
def QrlayoutBlanksWrongFalsely : Prop := qrlayoutBlanksRow.holds Try.pinned (OpenSpec.ofChange qrlayoutBlanksWrong)

/-- 'barscanlaw20.QrlayoutSigns': WHATEVER THE INPUT: true; the input reads as it did. -/
def qrlayoutSignsSpec : ChangeSpec := { name := "qrlayoutSigns", fn := fun _ => fun
  | [d1, d2, d3] => { results := [.lit (.bool true)], args := [d1, d2, d3] }
  | _ => none }
def qrlayoutSignsRow : OpenClaim := { program := "ytjkpdhcnklgfbaa", sum := "22907cf771bd11d947e8793899ebc1660173f6b2e53b528a664f63324039b0a3", func := "barscan/barscanlaw20.QrlayoutSigns", spec := "qrlayoutSigns", unfollowed := true, recurses := true, apart := false }
def QrlayoutSignsSaid : Prop := qrlayoutSignsRow.holds Try.pinned (OpenSpec.ofChange qrlayoutSignsSpec)

/-- ITS FALSE NEIGHBOUR: 'it returns false'. Refute it at one input. -/
def qrlayoutSignsWrong : ChangeSpec := { name := "qrlayoutSigns", fn := fun _ => fun
  | [d1, d2, d3] => { results := [.lit (.bool false)], args := [d1, d2, d3] }
  | _ => none }
def QrlayoutSignsWrongFalsely : Prop := qrlayoutSignsRow.holds Try.pinned (OpenSpec.ofChange qrlayoutSignsWrong)

/-- 'barscanlaw20.QrlayoutReads': WHATEVER THE INPUT: true; the input reads as it did. -/
def qrlayoutReadsSpec : ChangeSpec := { name := "qrlayoutReads", fn := fun _ => fun
  | [d1, d2] => { results := [.lit (.bool true)], args := [d1, d2] }
  | _ => none }
def qrlayoutReadsRow : OpenClaim := { program := "ytjkpdhcnklgfbaa", sum := "22907cf771bd11d947e8793899ebc1660173f6b2e53b528a664f63324039b0a3", func := "barscan/barscanlaw20.QrlayoutReads", spec := "qrlayoutReads", unfollowed := true, recurses := true, apart := false }
def QrlayoutReadsSaid : Prop := qrlayoutReadsRow.holds Try.pinned (OpenSpec.ofChange qrlayoutReadsSpec)

/-- ITS FALSE NEIGHBOUR: 'it returns false'. Refute it at one input. -/
def qrlayoutReadsWrong : ChangeSpec := { name := "qrlayoutReads", fn := fun _ => fun
  | [d1, d2] => { results := [.lit (.bool false)], args := [d1, d2] }
  | _ => none }
def QrlayoutReadsWrongFalsely : Prop := qrlayoutReadsRow.holds Try.pinned (OpenSpec.ofChange qrlayoutReadsWrong)

/-- 'barscanlaw20.QrlayoutCells': WHATEVER THE INPUT: true; the input reads as it did. -/
def qrlayoutCellsSpec : ChangeSpec := { name := "qrlayoutCells", fn := fun _ => fun
  | [d] => { results := [.lit (.bool true)], args := [d] }
  | _ => none }
def qrlayoutCellsRow : OpenClaim := { program := "ytjkpdhcnklgfbaa", sum := "22907cf771bd11d947e8793899ebc1660173f6b2e53b528a664f63324039b0a3", func := "barscan/barscanlaw20.QrlayoutCells", spec := "qrlayoutCells", unfollowed := true, recurses := true, apart := false }
def QrlayoutCellsSaid : Prop := qrlayoutCellsRow.holds Try.pinned (OpenSpec.ofChange qrlayoutCellsSpec)

/-- ITS FALSE NEIGHBOUR: 'it returns false'. Refute it at one input. -/
def qrlayoutCellsWrong : ChangeSpec := { name := "qrlayoutCells", fn := fun _ => fun
  | [d] => { results := [.lit (.bool false)], args := [d] }
  | _ => none }
def QrlayoutCellsWrongFalsely : Prop := qrlayoutCellsRow.holds Try.pinned (OpenSpec.ofChange qrlayoutCellsWrong)

/-- 'barscanlaw20.QrlayoutCovers': WHATEVER THE INPUT: true; the input reads as it did. -/
def qrlayoutCoversSpec : ChangeSpec := { name := "qrlayoutCovers", fn := fun _ => fun
  | [d] => { results := [.lit (.bool true)], args := [d] }
  | _ => none }
def qrlayoutCoversRow : OpenClaim := { program := "ytjkpdhcnklgfbaa", sum := "22907cf771bd11d947e8793899ebc1660173f6b2e53b528a664f63324039b0a3", func := "barscan/barscanlaw20.QrlayoutCovers", spec := "qrlayoutCovers", unfollowed := true, recurses := true, apart := false }
def QrlayoutCoversSaid : Prop := qrlayoutCoversRow.holds Try.pinned (OpenSpec.ofChange qrlayoutCoversSpec)

/-- ITS FALSE NEIGHBOUR: 'it returns false'. Refute it at one input. -/
def qrlayoutCoversWrong : ChangeSpec := { name := "qrlayoutCovers", fn := fun _ => fun
  | [d] => { results := [.lit (.bool false)], args := [d] }
  | _ => none }
def QrlayoutCoversWrongFalsely : Prop := qrlayoutCoversRow.holds Try.pinned (OpenSpec.ofChange qrlayoutCoversWrong)

/-- 'barscanlaw20.QrlayoutFills': WHATEVER THE INPUT: true; the input reads as it did. -/
def qrlayoutFillsSpec : ChangeSpec := { name := "qrlayoutFills", fn := fun _ => fun
  | [d1, d2] => { results := [.lit (.bool true)], args := [d1, d2] }
  | _ => none }
def qrlayoutFillsRow : OpenClaim := { program := "ytjkpdhcnklgfbaa", sum := "22907cf771bd11d947e8793899ebc1660173f6b2e53b528a664f63324039b0a3", func := "barscan/barscanlaw20.QrlayoutFills", spec := "qrlayoutFills", unfollowed := true, recurses := true, apart := false }
def QrlayoutFillsSaid : Prop := qrlayoutFillsRow.holds Try.pinned (OpenSpec.ofChange qrlayoutFillsSpec)

/-- ITS FALSE NEIGHBOUR: 'it returns false'. Refute it at one input. -/
def qrlayoutFillsWrong : ChangeSpec := { name := "qrlayoutFills", fn := fun _ => fun
  | [d1, d2] => { results := [.lit (.bool false)], args := [d1, d2] }
  | _ => none }
def QrlayoutFillsWrongFalsely : Prop := qrlayoutFillsRow.holds Try.pinned (OpenSpec.ofChange qrlayoutFillsWrong)

/-- 'barscanlaw20.QrlayoutReturns': WHATEVER THE INPUT: true; the input reads as it did. -/
def qrlayoutReturnsSpec : ChangeSpec := { name := "qrlayoutReturns", fn := fun _ => fun
  | [d1, d2, d3] => { results := [.lit (.bool true)], args := [d1, d2, d3] }
  | _ => none }
def qrlayoutReturnsRow : OpenClaim := { program := "ytjkpdhcnklgfbaa", sum := "22907cf771bd11d947e8793899ebc1660173f6b2e53b528a664f63324039b0a3", func := "barscan/barscanlaw20.QrlayoutReturns", spec := "qrlayoutReturns", unfollowed := true, recurses := true, apart := false }
def QrlayoutReturnsSaid : Prop := qrlayoutReturnsRow.holds Try.pinned (OpenSpec.ofChange qrlayoutReturnsSpec)

/-- ITS FALSE NEIGHBOUR: 'it returns false'. Refute it at one input. -/
def qrlayoutReturnsWrong : ChangeSpec := { name := "qrlayoutReturns", fn := fun _ => fun
  | [d1, d2, d3] => { results := [.lit (.bool false)], args := [d1, d2, d3] }
  | _ => none }
def QrlayoutReturnsWrongFalsely : Prop := qrlayoutReturnsRow.holds Try.pinned (OpenSpec.ofChange qrlayoutReturnsWrong)

/- THE SECOND FORM. 'bulk': how many values and letters a reading holds, each counted each time it is reached (what is shared counts as often as it is met; a slice's spare places count too). A statement '..UptoSaid' is the law's where the arguments, and the package variables that the reading takes, are together of bulk at most 1048576: NARROWER than '..Said'. Prove '..Said' where nothing that the law and all that it calls make is longer than what came in: it says more and counts as full. Else prove '..UptoSaid'. A law counts once. -/
mutual
def uptoBulk {H : Type} : DataW H → Nat
  | .lit (.string bytes) => bytes.length + 1
  | .lit _ => 1
  | .nil => 1
  | .ptr d => uptoBulk d + 1
  | .slice elems spare => uptoBulkAll elems + uptoBulkAll spare + 1
  | .agg parts => uptoBulkAll parts + 1
  | .iface _ d => uptoBulk d + 1
  | .map entries => uptoBulkEntries entries + 1
  | .held _ => 1
def uptoBulkAll {H : Type} : List (DataW H) → Nat
  | [] => 0
  | d :: r => uptoBulk d + uptoBulkAll r
def uptoBulkEntries {H : Type} : List (Lit × DataW H) → Nat
  | [] => 0
  | x :: r => uptoBulkEntry x + uptoBulkEntries r
def uptoBulkEntry {H : Type} : Lit × DataW H → Nat
  | (.string bytes, d) => bytes.length + uptoBulk d + 1
  | (_, d) => uptoBulk d + 1
 end
def uptoSmall : (H : Type) → List (DataW H) → Bool := fun _ ds => decide (uptoBulkAll ds ≤ 1048576)
def OpenSpec.upto (s : _root_.Go.ChangeSpec) : _root_.Go.OpenSpec := { _root_.Go.OpenSpec.ofChange s with cond := some uptoSmall }

/-- 'barscanlaw20.QrlayoutBlanks', WHERE WHAT IT READS IS OF BULK AT MOST 1048576: true; the input reads as it did. -/
def qrlayoutBlanksUptoRow : OpenClaim := { program := "ytjkpdhcnklgfbaa", sum := "22907cf771bd11d947e8793899ebc1660173f6b2e53b528a664f63324039b0a3", func := "barscan/barscanlaw20.QrlayoutBlanks", spec := "qrlayoutBlanks", unfollowed := true, recurses := true, apart := false, narrowed := true }
def QrlayoutBlanksUptoSaid : Prop := qrlayoutBlanksUptoRow.holds Try.pinned (OpenSpec.upto qrlayoutBlanksSpec)

/-- 'barscanlaw20.QrlayoutSigns', WHERE WHAT IT READS IS OF BULK AT MOST 1048576: true; the input reads as it did. -/
def qrlayoutSignsUptoRow : OpenClaim := { program := "ytjkpdhcnklgfbaa", sum := "22907cf771bd11d947e8793899ebc1660173f6b2e53b528a664f63324039b0a3", func := "barscan/barscanlaw20.QrlayoutSigns", spec := "qrlayoutSigns", unfollowed := true, recurses := true, apart := false, narrowed := true }
def QrlayoutSignsUptoSaid : Prop := qrlayoutSignsUptoRow.holds Try.pinned (OpenSpec.upto qrlayoutSignsSpec)

/-- 'barscanlaw20.QrlayoutReads', WHERE WHAT IT READS IS OF BULK AT MOST 1048576: true; the input reads as it did. -/
def qrlayoutReadsUptoRow : OpenClaim := { program := "ytjkpdhcnklgfbaa", sum := "22907cf771bd11d947e8793899ebc1660173f6b2e53b528a664f63324039b0a3", func := "barscan/barscanlaw20.QrlayoutReads", spec := "qrlayoutReads", unfollowed := true, recurses := true, apart := false, narrowed := true }
def QrlayoutReadsUptoSaid : Prop := qrlayoutReadsUptoRow.holds Try.pinned (OpenSpec.upto qrlayoutReadsSpec)

/-- 'barscanlaw20.QrlayoutCells', WHERE WHAT IT READS IS OF BULK AT MOST 1048576: true; the input reads as it did. -/
def qrlayoutCellsUptoRow : OpenClaim := { program := "ytjkpdhcnklgfbaa", sum := "22907cf771bd11d947e8793899ebc1660173f6b2e53b528a664f63324039b0a3", func := "barscan/barscanlaw20.QrlayoutCells", spec := "qrlayoutCells", unfollowed := true, recurses := true, apart := false, narrowed := true }
def QrlayoutCellsUptoSaid : Prop := qrlayoutCellsUptoRow.holds Try.pinned (OpenSpec.upto qrlayoutCellsSpec)

/-- 'barscanlaw20.QrlayoutCovers', WHERE WHAT IT READS IS OF BULK AT MOST 1048576: true; the input reads as it did. -/
def qrlayoutCoversUptoRow : OpenClaim := { program := "ytjkpdhcnklgfbaa", sum := "22907cf771bd11d947e8793899ebc1660173f6b2e53b528a664f63324039b0a3", func := "barscan/barscanlaw20.QrlayoutCovers", spec := "qrlayoutCovers", unfollowed := true, recurses := true, apart := false, narrowed := true }
def QrlayoutCoversUptoSaid : Prop := qrlayoutCoversUptoRow.holds Try.pinned (OpenSpec.upto qrlayoutCoversSpec)

/-- 'barscanlaw20.QrlayoutFills', WHERE WHAT IT READS IS OF BULK AT MOST 1048576: true; the input reads as it did. -/
def qrlayoutFillsUptoRow : OpenClaim := { program := "ytjkpdhcnklgfbaa", sum := "22907cf771bd11d947e8793899ebc1660173f6b2e53b528a664f63324039b0a3", func := "barscan/barscanlaw20.QrlayoutFills", spec := "qrlayoutFills", unfollowed := true, recurses := true, apart := false, narrowed := true }
def QrlayoutFillsUptoSaid : Prop := qrlayoutFillsUptoRow.holds Try.pinned (OpenSpec.upto qrlayoutFillsSpec)

/-- 'barscanlaw20.QrlayoutReturns', WHERE WHAT IT READS IS OF BULK AT MOST 1048576: true; the input reads as it did. -/
def qrlayoutReturnsUptoRow : OpenClaim := { program := "ytjkpdhcnklgfbaa", sum := "22907cf771bd11d947e8793899ebc1660173f6b2e53b528a664f63324039b0a3", func := "barscan/barscanlaw20.QrlayoutReturns", spec := "qrlayoutReturns", unfollowed := true, recurses := true, apart := false, narrowed := true }
def QrlayoutReturnsUptoSaid : Prop := qrlayoutReturnsUptoRow.holds Try.pinned (OpenSpec.upto qrlayoutReturnsSpec)

end Rows
end Go.Proofs.Ytjkpdhcnklgfbaa
