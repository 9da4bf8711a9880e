/-
  No cell of these rows narrows 'for every input' (looked for: loops, veiled, ifaces, maps, wideKeys, modest, calm, conditions, laid).
  DERIVED. THE GIVEN ROWS OF THIS SEAT. 6 by the template 'for every input the law returns true; each argument reads behind the call as it read before'; 0 by the template 'total and deterministic' (their statements: YtbfcgggcdmafoaaTotals.lean).
  GIVEN WITH THE SEED: the statements are not yours to turn. If you find one false, say at which input.
  Laid BY PROGRAM, IN A SANDBOX (cutbox-rows.mjs): the forced cells as the released guide's own fill.sh prints them over the translation 085b9bededf27997… (all of the seat's roots in one cut). By AI agents, Wed Nov 11 2026. No macro, syntax, notation, axiom, sorry.
-/
import Derived.Test.YtbfcgggcdmafoaaChecked
import GoSem.Claim
import GoSem.ClaimJoined
import GoSem.ClaimMapViews
import Derived.JoinedTies
import Derived.KernelRfl
namespace Go.Proofs.Ytbfcgggcdmafoaa
/- THE CELL 'sum', in the pinned program and in every row, IS THE sha256 OF THE DUMP (.gsa) THAT YtbfcgggcdmafoaaProg.lean LOADS. Nothing in Lean hashes anything: it is a label: what it is worth is what the hold of that sum in a sandbox is worth. -/
noncomputable def Try.pinned : Pinned := { name := "ytbfcgggcdmafoaa", sum := "085b9bededf27997cab4763c604e4e0e64c77a665128f5a427cb2ffead2e47de", checked := Try.checked }
namespace Rows
def none {H : Type} : Left H := { results := [], args := [] }

/-- 'barscanlaw18.QrdataHeader': WHATEVER THE INPUT: true; the input reads as it did. -/
def qrdataHeaderSpec : ChangeSpec := { name := "qrdataHeader", fn := fun _ => fun
  | [d] => { results := [.lit (.bool true)], args := [d] }
  | _ => none }
def qrdataHeaderRow : OpenClaim := { program := "ytbfcgggcdmafoaa", sum := "085b9bededf27997cab4763c604e4e0e64c77a665128f5a427cb2ffead2e47de", func := "barscan/barscanlaw18.QrdataHeader", spec := "qrdataHeader", inPlace := ["internal/bytealg.IndexByteString"], apart := false }
def QrdataHeaderSaid : Prop := qrdataHeaderRow.holds Try.pinned (OpenSpec.ofChange qrdataHeaderSpec)

/-- ITS FALSE NEIGHBOUR: 'it returns false'. Refute it at one input. -/
def qrdataHeaderWrong : ChangeSpec := { name := "qrdataHeader", fn := fun _ => fun
  | [d] => { results := [.lit (.bool false)], args := [d] }
  | _ => none }
def QrdataHeaderWrongFalsely : Prop := qrdataHeaderRow.holds Try.pinned (OpenSpec.ofChange qrdataHeaderWrong)

/-- 'barscanlaw18.QrdataPads': WHATEVER THE INPUT: true; the input reads as it did. -/
def qrdataPadsSpec : ChangeSpec := { name := "qrdataPads", fn := fun _ => fun
  | [d1, d2] => { results := [.lit (.bool true)], args := [d1, d2] }
  | _ => none }
def qrdataPadsRow : OpenClaim := { program := "ytbfcgggcdmafoaa", sum := "085b9bededf27997cab4763c604e4e0e64c77a665128f5a427cb2ffead2e47de", func := "barscan/barscanlaw18.QrdataPads", spec := "qrdataPads", inPlace := ["internal/bytealg.IndexByteString"], apart := false }
def QrdataPadsSaid : Prop := qrdataPadsRow.holds Try.pinned (OpenSpec.ofChange qrdataPadsSpec)

/-- ITS FALSE NEIGHBOUR: 'it returns false'. Refute it at one input. -/
def qrdataPadsWrong : ChangeSpec := { name := "qrdataPads", fn := fun _ => fun
  | [d1, d2] => { results := [.lit (.bool false)], args := [d1, d2] }
  | _ => none }
def QrdataPadsWrongFalsely : Prop := qrdataPadsRow.holds Try.pinned (OpenSpec.ofChange qrdataPadsWrong)

/-- 'barscanlaw18.QrdataPacks': WHATEVER THE INPUT: true; the input reads as it did. -/
def qrdataPacksSpec : ChangeSpec := { name := "qrdataPacks", fn := fun _ => fun
  | [d1, d2, d3] => { results := [.lit (.bool true)], args := [d1, d2, d3] }
  | _ => none }
def qrdataPacksRow : OpenClaim := { program := "ytbfcgggcdmafoaa", sum := "085b9bededf27997cab4763c604e4e0e64c77a665128f5a427cb2ffead2e47de", func := "barscan/barscanlaw18.QrdataPacks", spec := "qrdataPacks", inPlace := ["internal/bytealg.IndexByteString"], apart := false }
def QrdataPacksSaid : Prop := qrdataPacksRow.holds Try.pinned (OpenSpec.ofChange qrdataPacksSpec)

/-- ITS FALSE NEIGHBOUR: 'it returns false'. Refute it at one input. -/
def qrdataPacksWrong : ChangeSpec := { name := "qrdataPacks", fn := fun _ => fun
  | [d1, d2, d3] => { results := [.lit (.bool false)], args := [d1, d2, d3] }
  | _ => none }
def QrdataPacksWrongFalsely : Prop := qrdataPacksRow.holds Try.pinned (OpenSpec.ofChange qrdataPacksWrong)

/-- 'barscanlaw18.QrdataContents': WHATEVER THE INPUT: true; the input reads as it did. -/
def qrdataContentsSpec : ChangeSpec := { name := "qrdataContents", fn := fun _ => fun
  | [d1, d2] => { results := [.lit (.bool true)], args := [d1, d2] }
  | _ => none }
def qrdataContentsRow : OpenClaim := { program := "ytbfcgggcdmafoaa", sum := "085b9bededf27997cab4763c604e4e0e64c77a665128f5a427cb2ffead2e47de", func := "barscan/barscanlaw18.QrdataContents", spec := "qrdataContents", inPlace := ["internal/bytealg.IndexByteString"], apart := false }
def QrdataContentsSaid : Prop := qrdataContentsRow.holds Try.pinned (OpenSpec.ofChange qrdataContentsSpec)

/-- ITS FALSE NEIGHBOUR: 'it returns false'. Refute it at one input. -/
def qrdataContentsWrong : ChangeSpec := { name := "qrdataContents", fn := fun _ => fun
  | [d1, d2] => { results := [.lit (.bool false)], args := [d1, d2] }
  | _ => none }
def QrdataContentsWrongFalsely : Prop := qrdataContentsRow.holds Try.pinned (OpenSpec.ofChange qrdataContentsWrong)

/-- 'barscanlaw18.QrdataUnpacks': WHATEVER THE INPUT: true; the input reads as it did. -/
def qrdataUnpacksSpec : ChangeSpec := { name := "qrdataUnpacks", fn := fun _ => fun
  | [d1, d2] => { results := [.lit (.bool true)], args := [d1, d2] }
  | _ => none }
def qrdataUnpacksRow : OpenClaim := { program := "ytbfcgggcdmafoaa", sum := "085b9bededf27997cab4763c604e4e0e64c77a665128f5a427cb2ffead2e47de", func := "barscan/barscanlaw18.QrdataUnpacks", spec := "qrdataUnpacks", inPlace := ["internal/bytealg.IndexByteString"], apart := false }
def QrdataUnpacksSaid : Prop := qrdataUnpacksRow.holds Try.pinned (OpenSpec.ofChange qrdataUnpacksSpec)

/-- ITS FALSE NEIGHBOUR: 'it returns false'. Refute it at one input. -/
def qrdataUnpacksWrong : ChangeSpec := { name := "qrdataUnpacks", fn := fun _ => fun
  | [d1, d2] => { results := [.lit (.bool false)], args := [d1, d2] }
  | _ => none }
def QrdataUnpacksWrongFalsely : Prop := qrdataUnpacksRow.holds Try.pinned (OpenSpec.ofChange qrdataUnpacksWrong)

/-- 'barscanlaw18.QrdataRoundTrip': WHATEVER THE INPUT: true; the input reads as it did. -/
def qrdataRoundTripSpec : ChangeSpec := { name := "qrdataRoundTrip", fn := fun _ => fun
  | [d1, d2, d3] => { results := [.lit (.bool true)], args := [d1, d2, d3] }
  | _ => none }
def qrdataRoundTripRow : OpenClaim := { program := "ytbfcgggcdmafoaa", sum := "085b9bededf27997cab4763c604e4e0e64c77a665128f5a427cb2ffead2e47de", func := "barscan/barscanlaw18.QrdataRoundTrip", spec := "qrdataRoundTrip", inPlace := ["internal/bytealg.IndexByteString"], apart := false }
def QrdataRoundTripSaid : Prop := qrdataRoundTripRow.holds Try.pinned (OpenSpec.ofChange qrdataRoundTripSpec)

/-- ITS FALSE NEIGHBOUR: 'it returns false'. Refute it at one input. -/
def qrdataRoundTripWrong : ChangeSpec := { name := "qrdataRoundTrip", fn := fun _ => fun
  | [d1, d2, d3] => { results := [.lit (.bool false)], args := [d1, d2, d3] }
  | _ => none }
def QrdataRoundTripWrongFalsely : Prop := qrdataRoundTripRow.holds Try.pinned (OpenSpec.ofChange qrdataRoundTripWrong)

/- THE SECOND FORM. 'bulk': how many values and letters a reading holds, each counted each time it is reached (what is shared counts as often as it is met; a slice's spare places count too). A statement '..UptoSaid' is the law's where the arguments, and the package variables that the reading takes, are together of bulk at most 1048576: NARROWER than '..Said'. Prove '..Said' where nothing that the law and all that it calls make is longer than what came in: it says more and counts as full. Else prove '..UptoSaid'. A law counts once. -/
mutual
def uptoBulk {H : Type} : DataW H → Nat
  | .lit (.string bytes) => bytes.length + 1
  | .lit _ => 1
  | .nil => 1
  | .ptr d => uptoBulk d + 1
  | .slice elems spare => uptoBulkAll elems + uptoBulkAll spare + 1
  | .agg parts => uptoBulkAll parts + 1
  | .iface _ d => uptoBulk d + 1
  | .map entries => uptoBulkEntries entries + 1
  | .held _ => 1
def uptoBulkAll {H : Type} : List (DataW H) → Nat
  | [] => 0
  | d :: r => uptoBulk d + uptoBulkAll r
def uptoBulkEntries {H : Type} : List (Lit × DataW H) → Nat
  | [] => 0
  | x :: r => uptoBulkEntry x + uptoBulkEntries r
def uptoBulkEntry {H : Type} : Lit × DataW H → Nat
  | (.string bytes, d) => bytes.length + uptoBulk d + 1
  | (_, d) => uptoBulk d + 1
 end
def uptoSmall : (H : Type) → List (DataW H) → Bool := fun _ ds => decide (uptoBulkAll ds ≤ 1048576)
def OpenSpec.upto (s : _root_.Go.ChangeSpec) : _root_.Go.OpenSpec := { _root_.Go.OpenSpec.ofChange s with cond := some uptoSmall }

/-- 'barscanlaw18.QrdataHeader', WHERE WHAT IT READS IS OF BULK AT MOST 1048576: true; the input reads as it did. -/
def qrdataHeaderUptoRow : OpenClaim := { program := "ytbfcgggcdmafoaa", sum := "085b9bededf27997cab4763c604e4e0e64c77a665128f5a427cb2ffead2e47de", func := "barscan/barscanlaw18.QrdataHeader", spec := "qrdataHeader", inPlace := ["internal/bytealg.IndexByteString"], apart := false, narrowed := true }
def QrdataHeaderUptoSaid : Prop := qrdataHeaderUptoRow.holds Try.pinned (OpenSpec.upto qrdataHeaderSpec)

/-- 'barscanlaw18.QrdataPads', WHERE WHAT IT READS IS OF BULK AT MOST 1048576: true; the input reads as it did. -/
def qrdataPadsUptoRow : OpenClaim := { program := "ytbfcgggcdmafoaa", sum := "085b9bededf27997cab4763c604e4e0e64c77a665128f5a427cb2ffead2e47de", func := "barscan/barscanlaw18.QrdataPads", spec := "qrdataPads", inPlace := ["internal/bytealg.IndexByteString"], apart := false, narrowed := true }
def QrdataPadsUptoSaid : Prop := qrdataPadsUptoRow.holds Try.pinned (OpenSpec.upto qrdataPadsSpec)

/-- 'barscanlaw18.QrdataPacks', WHERE WHAT IT READS IS OF BULK AT MOST 1048576: true; the input reads as it did. -/
def qrdataPacksUptoRow : OpenClaim := { program := "ytbfcgggcdmafoaa", sum := "085b9bededf27997cab4763c604e4e0e64c77a665128f5a427cb2ffead2e47de", func := "barscan/barscanlaw18.QrdataPacks", spec := "qrdataPacks", inPlace := ["internal/bytealg.IndexByteString"], apart := false, narrowed := true }
def QrdataPacksUptoSaid : Prop := qrdataPacksUptoRow.holds Try.pinned (OpenSpec.upto qrdataPacksSpec)

/-- 'barscanlaw18.QrdataContents', WHERE WHAT IT READS IS OF BULK AT MOST 1048576: true; the input reads as it did. -/
def qrdataContentsUptoRow : OpenClaim := { program := "ytbfcgggcdmafoaa", sum := "085b9bededf27997cab4763c604e4e0e64c77a665128f5a427cb2ffead2e47de", func := "barscan/barscanlaw18.QrdataContents", spec := "qrdataContents", inPlace := ["internal/bytealg.IndexByteString"], apart := false, narrowed := true }
def QrdataContentsUptoSaid : Prop := qrdataContentsUptoRow.holds Try.pinned (OpenSpec.upto qrdataContentsSpec)

/-- 'barscanlaw18.QrdataUnpacks', WHERE WHAT IT READS IS OF BULK AT MOST 1048576: true; the input reads as it did. -/
def qrdataUnpacksUptoRow : OpenClaim := { program := "ytbfcgggcdmafoaa", sum := "085b9bededf27997cab4763c604e4e0e64c77a665128f5a427cb2ffead2e47de", func := "barscan/barscanlaw18.QrdataUnpacks", spec := "qrdataUnpacks", inPlace := ["internal/bytealg.IndexByteString"], apart := false, narrowed := true }
def QrdataUnpacksUptoSaid : Prop := qrdataUnpacksUptoRow.holds Try.pinned (OpenSpec.upto qrdataUnpacksSpec)

/-- 'barscanlaw18.QrdataRoundTrip', WHERE WHAT IT READS IS OF BULK AT MOST 1048576: true; the input reads as it did. -/
def qrdataRoundTripUptoRow : OpenClaim := { program := "ytbfcgggcdmafoaa", sum := "085b9bededf27997cab4763c604e4e0e64c77a665128f5a427cb2ffead2e47de", func := "barscan/barscanlaw18.QrdataRoundTrip", spec := "qrdataRoundTrip", inPlace := ["internal/bytealg.IndexByteString"], apart := false, narrowed := true }
def QrdataRoundTripUptoSaid : Prop := qrdataRoundTripUptoRow.holds Try.pinned (OpenSpec.upto qrdataRoundTripSpec)

end Rows
end Go.Proofs.Ytbfcgggcdmafoaa
