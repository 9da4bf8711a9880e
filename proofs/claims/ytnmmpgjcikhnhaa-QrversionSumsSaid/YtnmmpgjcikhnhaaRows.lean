/-
  No cell of these rows narrows 'for every input' (looked for: loops, veiled, ifaces, maps, wideKeys, modest, calm, conditions, laid).
  DERIVED. THE GIVEN ROWS OF THIS SEAT. 5 by the template 'for every input the law returns true; each argument reads behind the call as it read before'; 0 by the template 'total and deterministic' (their statements: YtnmmpgjcikhnhaaTotals.lean).
  GIVEN WITH THE SEED: the statements are not yours to turn. If you find one false, say at which input.
  Laid BY PROGRAM, IN A SANDBOX (cutbox-rows.mjs): the forced cells as the released guide's own fill.sh prints them over the translation 1073583ed4f08f05… (all of the seat's roots in one cut). By AI agents, Wed Nov 11 2026. No macro, syntax, notation, axiom, sorry.
-/
import Derived.Test.YtnmmpgjcikhnhaaChecked
import GoSem.Claim
import GoSem.ClaimJoined
import GoSem.ClaimMapViews
import Derived.JoinedTies
import Derived.KernelRfl
namespace Go.Proofs.Ytnmmpgjcikhnhaa
/- THE CELL 'sum', in the pinned program and in every row, IS THE sha256 OF THE DUMP (.gsa) THAT YtnmmpgjcikhnhaaProg.lean LOADS. Nothing in Lean hashes anything: it is a label: what it is worth is what the hold of that sum in a sandbox is worth. -/
noncomputable def Try.pinned : Pinned := { name := "ytnmmpgjcikhnhaa", sum := "1073583ed4f08f05cd9d2ec652987deda75502643da15a16b59e3029a5850967", checked := Try.checked }
namespace Rows
def none {H : Type} : Left H := { results := [], args := [] }

/-- 'barscanlaw17.QrversionSizes': WHATEVER THE INPUT: true; the input reads as it did. -/
def qrversionSizesSpec : ChangeSpec := { name := "qrversionSizes", fn := fun _ => fun
  | [d] => { results := [.lit (.bool true)], args := [d] }
  | _ => none }
def qrversionSizesRow : OpenClaim := { program := "ytnmmpgjcikhnhaa", sum := "1073583ed4f08f05cd9d2ec652987deda75502643da15a16b59e3029a5850967", func := "barscan/barscanlaw17.QrversionSizes", spec := "qrversionSizes", apart := false }
def QrversionSizesSaid : Prop := qrversionSizesRow.holds Try.pinned (OpenSpec.ofChange qrversionSizesSpec)

/-- ITS FALSE NEIGHBOUR: 'it returns false'. Refute it at one input. -/
def qrversionSizesWrong : ChangeSpec := { name := "qrversionSizes", fn := fun _ => fun
  | [d] => { results := [.lit (.bool false)], args := [d] }
  | _ => none }
def QrversionSizesWrongFalsely : Prop := qrversionSizesRow.holds Try.pinned (OpenSpec.ofChange qrversionSizesWrong)

/-- 'barscanlaw17.QrversionStructures': WHATEVER THE INPUT: true; the input reads as it did. -/
def qrversionStructuresSpec : ChangeSpec := { name := "qrversionStructures", fn := fun _ => fun
  | [d1, d2] => { results := [.lit (.bool true)], args := [d1, d2] }
  | _ => none }
def qrversionStructuresRow : OpenClaim := { program := "ytnmmpgjcikhnhaa", sum := "1073583ed4f08f05cd9d2ec652987deda75502643da15a16b59e3029a5850967", func := "barscan/barscanlaw17.QrversionStructures", spec := "qrversionStructures", apart := false }
def QrversionStructuresSaid : Prop := qrversionStructuresRow.holds Try.pinned (OpenSpec.ofChange qrversionStructuresSpec)

/-- ITS FALSE NEIGHBOUR: 'it returns false'. Refute it at one input. -/
def qrversionStructuresWrong : ChangeSpec := { name := "qrversionStructures", fn := fun _ => fun
  | [d1, d2] => { results := [.lit (.bool false)], args := [d1, d2] }
  | _ => none }
def QrversionStructuresWrongFalsely : Prop := qrversionStructuresRow.holds Try.pinned (OpenSpec.ofChange qrversionStructuresWrong)

/-- 'barscanlaw17.QrversionSums': WHATEVER THE INPUT: true; the input reads as it did. -/
def qrversionSumsSpec : ChangeSpec := { name := "qrversionSums", fn := fun _ => fun
  | [d1, d2] => { results := [.lit (.bool true)], args := [d1, d2] }
  | _ => none }
def qrversionSumsRow : OpenClaim := { program := "ytnmmpgjcikhnhaa", sum := "1073583ed4f08f05cd9d2ec652987deda75502643da15a16b59e3029a5850967", func := "barscan/barscanlaw17.QrversionSums", spec := "qrversionSums", apart := false }
def QrversionSumsSaid : Prop := qrversionSumsRow.holds Try.pinned (OpenSpec.ofChange qrversionSumsSpec)

/-- ITS FALSE NEIGHBOUR: 'it returns false'. Refute it at one input. -/
def qrversionSumsWrong : ChangeSpec := { name := "qrversionSums", fn := fun _ => fun
  | [d1, d2] => { results := [.lit (.bool false)], args := [d1, d2] }
  | _ => none }
def QrversionSumsWrongFalsely : Prop := qrversionSumsRow.holds Try.pinned (OpenSpec.ofChange qrversionSumsWrong)

/-- 'barscanlaw17.QrversionAligns': WHATEVER THE INPUT: true; the input reads as it did. -/
def qrversionAlignsSpec : ChangeSpec := { name := "qrversionAligns", fn := fun _ => fun
  | [d] => { results := [.lit (.bool true)], args := [d] }
  | _ => none }
def qrversionAlignsRow : OpenClaim := { program := "ytnmmpgjcikhnhaa", sum := "1073583ed4f08f05cd9d2ec652987deda75502643da15a16b59e3029a5850967", func := "barscan/barscanlaw17.QrversionAligns", spec := "qrversionAligns", apart := false }
def QrversionAlignsSaid : Prop := qrversionAlignsRow.holds Try.pinned (OpenSpec.ofChange qrversionAlignsSpec)

/-- ITS FALSE NEIGHBOUR: 'it returns false'. Refute it at one input. -/
def qrversionAlignsWrong : ChangeSpec := { name := "qrversionAligns", fn := fun _ => fun
  | [d] => { results := [.lit (.bool false)], args := [d] }
  | _ => none }
def QrversionAlignsWrongFalsely : Prop := qrversionAlignsRow.holds Try.pinned (OpenSpec.ofChange qrversionAlignsWrong)

/-- 'barscanlaw17.QrversionGrows': WHATEVER THE INPUT: true; the input reads as it did. -/
def qrversionGrowsSpec : ChangeSpec := { name := "qrversionGrows", fn := fun _ => fun
  | [d1, d2] => { results := [.lit (.bool true)], args := [d1, d2] }
  | _ => none }
def qrversionGrowsRow : OpenClaim := { program := "ytnmmpgjcikhnhaa", sum := "1073583ed4f08f05cd9d2ec652987deda75502643da15a16b59e3029a5850967", func := "barscan/barscanlaw17.QrversionGrows", spec := "qrversionGrows", apart := false }
def QrversionGrowsSaid : Prop := qrversionGrowsRow.holds Try.pinned (OpenSpec.ofChange qrversionGrowsSpec)

/-- ITS FALSE NEIGHBOUR: 'it returns false'. Refute it at one input. -/
def qrversionGrowsWrong : ChangeSpec := { name := "qrversionGrows", fn := fun _ => fun
  | [d1, d2] => { results := [.lit (.bool false)], args := [d1, d2] }
  | _ => none }
def QrversionGrowsWrongFalsely : Prop := qrversionGrowsRow.holds Try.pinned (OpenSpec.ofChange qrversionGrowsWrong)

/- THE SECOND FORM. 'bulk': how many values and letters a reading holds, each counted each time it is reached (what is shared counts as often as it is met; a slice's spare places count too). A statement '..UptoSaid' is the law's where the arguments, and the package variables that the reading takes, are together of bulk at most 1048576: NARROWER than '..Said'. Prove '..Said' where nothing that the law and all that it calls make is longer than what came in: it says more and counts as full. Else prove '..UptoSaid'. A law counts once. -/
mutual
def uptoBulk {H : Type} : DataW H → Nat
  | .lit (.string bytes) => bytes.length + 1
  | .lit _ => 1
  | .nil => 1
  | .ptr d => uptoBulk d + 1
  | .slice elems spare => uptoBulkAll elems + uptoBulkAll spare + 1
  | .agg parts => uptoBulkAll parts + 1
  | .iface _ d => uptoBulk d + 1
  | .map entries => uptoBulkEntries entries + 1
  | .held _ => 1
def uptoBulkAll {H : Type} : List (DataW H) → Nat
  | [] => 0
  | d :: r => uptoBulk d + uptoBulkAll r
def uptoBulkEntries {H : Type} : List (Lit × DataW H) → Nat
  | [] => 0
  | x :: r => uptoBulkEntry x + uptoBulkEntries r
def uptoBulkEntry {H : Type} : Lit × DataW H → Nat
  | (.string bytes, d) => bytes.length + uptoBulk d + 1
  | (_, d) => uptoBulk d + 1
 end
def uptoSmall : (H : Type) → List (DataW H) → Bool := fun _ ds => decide (uptoBulkAll ds ≤ 1048576)
def OpenSpec.upto (s : _root_.Go.ChangeSpec) : _root_.Go.OpenSpec := { _root_.Go.OpenSpec.ofChange s with cond := some uptoSmall }

/-- 'barscanlaw17.QrversionSizes', WHERE WHAT IT READS IS OF BULK AT MOST 1048576: true; the input reads as it did. -/
def qrversionSizesUptoRow : OpenClaim := { program := "ytnmmpgjcikhnhaa", sum := "1073583ed4f08f05cd9d2ec652987deda75502643da15a16b59e3029a5850967", func := "barscan/barscanlaw17.QrversionSizes", spec := "qrversionSizes", apart := false, narrowed := true }
def QrversionSizesUptoSaid : Prop := qrversionSizesUptoRow.holds Try.pinned (OpenSpec.upto qrversionSizesSpec)

/-- 'barscanlaw17.QrversionStructures', WHERE WHAT IT READS IS OF BULK AT MOST 1048576: true; the input reads as it did. -/
def qrversionStructuresUptoRow : OpenClaim := { program := "ytnmmpgjcikhnhaa", sum := "1073583ed4f08f05cd9d2ec652987deda75502643da15a16b59e3029a5850967", func := "barscan/barscanlaw17.QrversionStructures", spec := "qrversionStructures", apart := false, narrowed := true }
def QrversionStructuresUptoSaid : Prop := qrversionStructuresUptoRow.holds Try.pinned (OpenSpec.upto qrversionStructuresSpec)

/-- 'barscanlaw17.QrversionSums', WHERE WHAT IT READS IS OF BULK AT MOST 1048576: true; the input reads as it did. -/
def qrversionSumsUptoRow : OpenClaim := { program := "ytnmmpgjcikhnhaa", sum := "1073583ed4f08f05cd9d2ec652987deda75502643da15a16b59e3029a5850967", func := "barscan/barscanlaw17.QrversionSums", spec := "qrversionSums", apart := false, narrowed := true }
def QrversionSumsUptoSaid : Prop := qrversionSumsUptoRow.holds Try.pinned (OpenSpec.upto qrversionSumsSpec)

/-- 'barscanlaw17.QrversionAligns', WHERE WHAT IT READS IS OF BULK AT MOST 1048576: true; the input reads as it did. -/
def qrversionAlignsUptoRow : OpenClaim := { program := "ytnmmpgjcikhnhaa", sum := "1073583ed4f08f05cd9d2ec652987deda75502643da15a16b59e3029a5850967", func := "barscan/barscanlaw17.QrversionAligns", spec := "qrversionAligns", apart := false, narrowed := true }
def QrversionAlignsUptoSaid : Prop := qrversionAlignsUptoRow.holds Try.pinned (OpenSpec.upto qrversionAlignsSpec)

/-- 'barscanlaw17.QrversionGrows', WHERE WHAT IT READS IS OF BULK AT MOST 1048576: true; the input reads as it did. -/
def qrversionGrowsUptoRow : OpenClaim := { program := "ytnmmpgjcikhnhaa", sum := "1073583ed4f08f05cd9d2ec652987deda75502643da15a16b59e3029a5850967", func := "barscan/barscanlaw17.QrversionGrows", spec := "qrversionGrows", apart := false, narrowed := true }
def QrversionGrowsUptoSaid : Prop := qrversionGrowsUptoRow.holds Try.pinned (OpenSpec.upto qrversionGrowsSpec)

end Rows
end Go.Proofs.Ytnmmpgjcikhnhaa
