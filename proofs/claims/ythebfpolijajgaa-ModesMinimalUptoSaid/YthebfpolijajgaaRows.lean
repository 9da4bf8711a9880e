/-
  No cell of these rows narrows 'for every input' (looked for: loops, veiled, ifaces, maps, wideKeys, modest, calm, conditions, laid).
  DERIVED. THE GIVEN ROWS OF THIS SEAT. 11 by the template 'for every input the law returns true; each argument reads behind the call as it read before'; 0 by the template 'total and deterministic' (their statements: YthebfpolijajgaaTotals.lean).
  GIVEN WITH THE SEED: the statements are not yours to turn. If you find one false, say at which input.
  Laid BY PROGRAM, IN A SANDBOX (cutbox-rows.mjs): the forced cells as the released guide's own fill.sh prints them over the translation 0d1679f3d16ad710… (all of the seat's roots in one cut). By AI agents, Wed Nov 11 2026. No macro, syntax, notation, axiom, sorry.
-/
import Derived.Test.YthebfpolijajgaaChecked
import GoSem.Claim
import GoSem.ClaimJoined
import GoSem.ClaimMapViews
import Derived.JoinedTies
import Derived.KernelRfl
namespace Go.Proofs.Ythebfpolijajgaa
/- THE CELL 'sum', in the pinned program and in every row, IS THE sha256 OF THE DUMP (.gsa) THAT YthebfpolijajgaaProg.lean LOADS. Nothing in Lean hashes anything: it is a label: what it is worth is what the hold of that sum in a sandbox is worth. -/
noncomputable def Try.pinned : Pinned := { name := "ythebfpolijajgaa", sum := "0d1679f3d16ad710926816f607ffeba5b34628caa194656091bafab2c4e0b0f5", checked := Try.checked }
namespace Rows
def none {H : Type} : Left H := { results := [], args := [] }

/-- 'barscanlaw17.QrversionSmallest': WHATEVER THE INPUT: true; the input reads as it did. -/
def qrversionSmallestSpec : ChangeSpec := { name := "qrversionSmallest", fn := fun _ => fun
  | [d1, d2, d3] => { results := [.lit (.bool true)], args := [d1, d2, d3] }
  | _ => none }
def qrversionSmallestRow : OpenClaim := { program := "ythebfpolijajgaa", sum := "0d1679f3d16ad710926816f607ffeba5b34628caa194656091bafab2c4e0b0f5", func := "barscan/barscanlaw17.QrversionSmallest", spec := "qrversionSmallest", inPlace := ["internal/bytealg.IndexByteString"], apart := false }
def QrversionSmallestSaid : Prop := qrversionSmallestRow.holds Try.pinned (OpenSpec.ofChange qrversionSmallestSpec)

/-- ITS FALSE NEIGHBOUR: 'it returns false'. Refute it at one input. -/
def qrversionSmallestWrong : ChangeSpec := { name := "qrversionSmallest", fn := fun _ => fun
  | [d1, d2, d3] => { results := [.lit (.bool false)], args := [d1, d2, d3] }
  | _ => none }
def QrversionSmallestWrongFalsely : Prop := qrversionSmallestRow.holds Try.pinned (OpenSpec.ofChange qrversionSmallestWrong)

/-- 'barscanlaw16.ModesLimits': WHATEVER THE INPUT: true; the input reads as it did. -/
def modesLimitsSpec : ChangeSpec := { name := "modesLimits", fn := fun _ => fun
  | [d1, d2, d3, d4] => { results := [.lit (.bool true)], args := [d1, d2, d3, d4] }
  | _ => none }
def modesLimitsRow : OpenClaim := { program := "ythebfpolijajgaa", sum := "0d1679f3d16ad710926816f607ffeba5b34628caa194656091bafab2c4e0b0f5", func := "barscan/barscanlaw16.ModesLimits", spec := "modesLimits", inPlace := ["internal/bytealg.IndexByteString"], apart := false }
def ModesLimitsSaid : Prop := modesLimitsRow.holds Try.pinned (OpenSpec.ofChange modesLimitsSpec)

/-- ITS FALSE NEIGHBOUR: 'it returns false'. Refute it at one input. -/
def modesLimitsWrong : ChangeSpec := { name := "modesLimits", fn := fun _ => fun
  | [d1, d2, d3, d4] => { results := [.lit (.bool false)], args := [d1, d2, d3, d4] }
  | _ => none }
def ModesLimitsWrongFalsely : Prop := modesLimitsRow.holds Try.pinned (OpenSpec.ofChange modesLimitsWrong)

/-- 'barscanlaw16.ModesDecodes': WHATEVER THE INPUT: true; the input reads as it did. -/
def modesDecodesSpec : ChangeSpec := { name := "modesDecodes", fn := fun _ => fun
  | [d1, d2] => { results := [.lit (.bool true)], args := [d1, d2] }
  | _ => none }
def modesDecodesRow : OpenClaim := { program := "ythebfpolijajgaa", sum := "0d1679f3d16ad710926816f607ffeba5b34628caa194656091bafab2c4e0b0f5", func := "barscan/barscanlaw16.ModesDecodes", spec := "modesDecodes", inPlace := ["internal/bytealg.IndexByteString"], apart := false }
def ModesDecodesSaid : Prop := modesDecodesRow.holds Try.pinned (OpenSpec.ofChange modesDecodesSpec)

/-- ITS FALSE NEIGHBOUR: 'it returns false'. Refute it at one input. -/
def modesDecodesWrong : ChangeSpec := { name := "modesDecodes", fn := fun _ => fun
  | [d1, d2] => { results := [.lit (.bool false)], args := [d1, d2] }
  | _ => none }
def ModesDecodesWrongFalsely : Prop := modesDecodesRow.holds Try.pinned (OpenSpec.ofChange modesDecodesWrong)

/-- 'barscanlaw16.ModesBest': WHATEVER THE INPUT: true; the input reads as it did. -/
def modesBestSpec : ChangeSpec := { name := "modesBest", fn := fun _ => fun
  | [d1, d2] => { results := [.lit (.bool true)], args := [d1, d2] }
  | _ => none }
def modesBestRow : OpenClaim := { program := "ythebfpolijajgaa", sum := "0d1679f3d16ad710926816f607ffeba5b34628caa194656091bafab2c4e0b0f5", func := "barscan/barscanlaw16.ModesBest", spec := "modesBest", inPlace := ["internal/bytealg.IndexByteString"], apart := false }
def ModesBestSaid : Prop := modesBestRow.holds Try.pinned (OpenSpec.ofChange modesBestSpec)

/-- ITS FALSE NEIGHBOUR: 'it returns false'. Refute it at one input. -/
def modesBestWrong : ChangeSpec := { name := "modesBest", fn := fun _ => fun
  | [d1, d2] => { results := [.lit (.bool false)], args := [d1, d2] }
  | _ => none }
def ModesBestWrongFalsely : Prop := modesBestRow.holds Try.pinned (OpenSpec.ofChange modesBestWrong)

/-- 'barscanlaw16.ModesRoundTrip': WHATEVER THE INPUT: true; the input reads as it did. -/
def modesRoundTripSpec : ChangeSpec := { name := "modesRoundTrip", fn := fun _ => fun
  | [d1, d2, d3, d4] => { results := [.lit (.bool true)], args := [d1, d2, d3, d4] }
  | _ => none }
def modesRoundTripRow : OpenClaim := { program := "ythebfpolijajgaa", sum := "0d1679f3d16ad710926816f607ffeba5b34628caa194656091bafab2c4e0b0f5", func := "barscan/barscanlaw16.ModesRoundTrip", spec := "modesRoundTrip", inPlace := ["internal/bytealg.IndexByteString"], apart := false }
def ModesRoundTripSaid : Prop := modesRoundTripRow.holds Try.pinned (OpenSpec.ofChange modesRoundTripSpec)

/-- ITS FALSE NEIGHBOUR: 'it returns false'. Refute it at one input. -/
def modesRoundTripWrong : ChangeSpec := { name := "modesRoundTrip", fn := fun _ => fun
  | [d1, d2, d3, d4] => { results := [.lit (.bool false)], args := [d1, d2, d3, d4] }
  | _ => none }
def ModesRoundTripWrongFalsely : Prop := modesRoundTripRow.holds Try.pinned (OpenSpec.ofChange modesRoundTripWrong)

/-- 'barscanlaw16.ModesMinimal': WHATEVER THE INPUT: true; the input reads as it did. -/
def modesMinimalSpec : ChangeSpec := { name := "modesMinimal", fn := fun _ => fun
  | [d1, d2] => { results := [.lit (.bool true)], args := [d1, d2] }
  | _ => none }
def modesMinimalRow : OpenClaim := { program := "ythebfpolijajgaa", sum := "0d1679f3d16ad710926816f607ffeba5b34628caa194656091bafab2c4e0b0f5", func := "barscan/barscanlaw16.ModesMinimal", spec := "modesMinimal", inPlace := ["internal/bytealg.IndexByteString"], apart := false }
def ModesMinimalSaid : Prop := modesMinimalRow.holds Try.pinned (OpenSpec.ofChange modesMinimalSpec)

/-- ITS FALSE NEIGHBOUR: 'it returns false'. Refute it at one input. -/
def modesMinimalWrong : ChangeSpec := { name := "modesMinimal", fn := fun _ => fun
  | [d1, d2] => { results := [.lit (.bool false)], args := [d1, d2] }
  | _ => none }
def ModesMinimalWrongFalsely : Prop := modesMinimalRow.holds Try.pinned (OpenSpec.ofChange modesMinimalWrong)

/-- 'barscanlaw16.ModesMonotone': WHATEVER THE INPUT: true; the input reads as it did. -/
def modesMonotoneSpec : ChangeSpec := { name := "modesMonotone", fn := fun _ => fun
  | [d1, d2, d3] => { results := [.lit (.bool true)], args := [d1, d2, d3] }
  | _ => none }
def modesMonotoneRow : OpenClaim := { program := "ythebfpolijajgaa", sum := "0d1679f3d16ad710926816f607ffeba5b34628caa194656091bafab2c4e0b0f5", func := "barscan/barscanlaw16.ModesMonotone", spec := "modesMonotone", inPlace := ["internal/bytealg.IndexByteString"], apart := false }
def ModesMonotoneSaid : Prop := modesMonotoneRow.holds Try.pinned (OpenSpec.ofChange modesMonotoneSpec)

/-- ITS FALSE NEIGHBOUR: 'it returns false'. Refute it at one input. -/
def modesMonotoneWrong : ChangeSpec := { name := "modesMonotone", fn := fun _ => fun
  | [d1, d2, d3] => { results := [.lit (.bool false)], args := [d1, d2, d3] }
  | _ => none }
def ModesMonotoneWrongFalsely : Prop := modesMonotoneRow.holds Try.pinned (OpenSpec.ofChange modesMonotoneWrong)

/-- 'barscanlaw16.ModesPure': WHATEVER THE INPUT: true; the input reads as it did. -/
def modesPureSpec : ChangeSpec := { name := "modesPure", fn := fun _ => fun
  | [d1, d2, d3] => { results := [.lit (.bool true)], args := [d1, d2, d3] }
  | _ => none }
def modesPureRow : OpenClaim := { program := "ythebfpolijajgaa", sum := "0d1679f3d16ad710926816f607ffeba5b34628caa194656091bafab2c4e0b0f5", func := "barscan/barscanlaw16.ModesPure", spec := "modesPure", inPlace := ["internal/bytealg.IndexByteString"], apart := false }
def ModesPureSaid : Prop := modesPureRow.holds Try.pinned (OpenSpec.ofChange modesPureSpec)

/-- ITS FALSE NEIGHBOUR: 'it returns false'. Refute it at one input. -/
def modesPureWrong : ChangeSpec := { name := "modesPure", fn := fun _ => fun
  | [d1, d2, d3] => { results := [.lit (.bool false)], args := [d1, d2, d3] }
  | _ => none }
def ModesPureWrongFalsely : Prop := modesPureRow.holds Try.pinned (OpenSpec.ofChange modesPureWrong)

/-- 'barscanlaw16.ModesBits': WHATEVER THE INPUT: true; the input reads as it did. -/
def modesBitsSpec : ChangeSpec := { name := "modesBits", fn := fun _ => fun
  | [d1, d2] => { results := [.lit (.bool true)], args := [d1, d2] }
  | _ => none }
def modesBitsRow : OpenClaim := { program := "ythebfpolijajgaa", sum := "0d1679f3d16ad710926816f607ffeba5b34628caa194656091bafab2c4e0b0f5", func := "barscan/barscanlaw16.ModesBits", spec := "modesBits", inPlace := ["internal/bytealg.IndexByteString"], apart := false }
def ModesBitsSaid : Prop := modesBitsRow.holds Try.pinned (OpenSpec.ofChange modesBitsSpec)

/-- ITS FALSE NEIGHBOUR: 'it returns false'. Refute it at one input. -/
def modesBitsWrong : ChangeSpec := { name := "modesBits", fn := fun _ => fun
  | [d1, d2] => { results := [.lit (.bool false)], args := [d1, d2] }
  | _ => none }
def ModesBitsWrongFalsely : Prop := modesBitsRow.holds Try.pinned (OpenSpec.ofChange modesBitsWrong)

/-- 'barscanlaw16.ModesClasses': WHATEVER THE INPUT: true; the input reads as it did. -/
def modesClassesSpec : ChangeSpec := { name := "modesClasses", fn := fun _ => fun
  | [d1, d2, d3, d4] => { results := [.lit (.bool true)], args := [d1, d2, d3, d4] }
  | _ => none }
def modesClassesRow : OpenClaim := { program := "ythebfpolijajgaa", sum := "0d1679f3d16ad710926816f607ffeba5b34628caa194656091bafab2c4e0b0f5", func := "barscan/barscanlaw16.ModesClasses", spec := "modesClasses", inPlace := ["internal/bytealg.IndexByteString"], apart := false }
def ModesClassesSaid : Prop := modesClassesRow.holds Try.pinned (OpenSpec.ofChange modesClassesSpec)

/-- ITS FALSE NEIGHBOUR: 'it returns false'. Refute it at one input. -/
def modesClassesWrong : ChangeSpec := { name := "modesClasses", fn := fun _ => fun
  | [d1, d2, d3, d4] => { results := [.lit (.bool false)], args := [d1, d2, d3, d4] }
  | _ => none }
def ModesClassesWrongFalsely : Prop := modesClassesRow.holds Try.pinned (OpenSpec.ofChange modesClassesWrong)

/-- 'barscanlaw17.QrversionFits': WHATEVER THE INPUT: true; the input reads as it did. -/
def qrversionFitsSpec : ChangeSpec := { name := "qrversionFits", fn := fun _ => fun
  | [d1, d2, d3] => { results := [.lit (.bool true)], args := [d1, d2, d3] }
  | _ => none }
def qrversionFitsRow : OpenClaim := { program := "ythebfpolijajgaa", sum := "0d1679f3d16ad710926816f607ffeba5b34628caa194656091bafab2c4e0b0f5", func := "barscan/barscanlaw17.QrversionFits", spec := "qrversionFits", inPlace := ["internal/bytealg.IndexByteString"], apart := false }
def QrversionFitsSaid : Prop := qrversionFitsRow.holds Try.pinned (OpenSpec.ofChange qrversionFitsSpec)

/-- ITS FALSE NEIGHBOUR: 'it returns false'. Refute it at one input. -/
def qrversionFitsWrong : ChangeSpec := { name := "qrversionFits", fn := fun _ => fun
  | [d1, d2, d3] => { results := [.lit (.bool false)], args := [d1, d2, d3] }
  | _ => none }
def QrversionFitsWrongFalsely : Prop := qrversionFitsRow.holds Try.pinned (OpenSpec.ofChange qrversionFitsWrong)

/- THE SECOND FORM. 'bulk': how many values and letters a reading holds, each counted each time it is reached (what is shared counts as often as it is met; a slice's spare places count too). A statement '..UptoSaid' is the law's where the arguments, and the package variables that the reading takes, are together of bulk at most 1048576: NARROWER than '..Said'. Prove '..Said' where nothing that the law and all that it calls make is longer than what came in: it says more and counts as full. Else prove '..UptoSaid'. A law counts once. -/
mutual
def uptoBulk {H : Type} : DataW H → Nat
  | .lit (.string bytes) => bytes.length + 1
  | .lit _ => 1
  | .nil => 1
  | .ptr d => uptoBulk d + 1
  | .slice elems spare => uptoBulkAll elems + uptoBulkAll spare + 1
  | .agg parts => uptoBulkAll parts + 1
  | .iface _ d => uptoBulk d + 1
  | .map entries => uptoBulkEntries entries + 1
  | .held _ => 1
def uptoBulkAll {H : Type} : List (DataW H) → Nat
  | [] => 0
  | d :: r => uptoBulk d + uptoBulkAll r
def uptoBulkEntries {H : Type} : List (Lit × DataW H) → Nat
  | [] => 0
  | x :: r => uptoBulkEntry x + uptoBulkEntries r
def uptoBulkEntry {H : Type} : Lit × DataW H → Nat
  | (.string bytes, d) => bytes.length + uptoBulk d + 1
  | (_, d) => uptoBulk d + 1
 end
def uptoSmall : (H : Type) → List (DataW H) → Bool := fun _ ds => decide (uptoBulkAll ds ≤ 1048576)
def OpenSpec.upto (s : _root_.Go.ChangeSpec) : _root_.Go.OpenSpec := { _root_.Go.OpenSpec.ofChange s with cond := some uptoSmall }

/-- 'barscanlaw17.QrversionSmallest', WHERE WHAT IT READS IS OF BULK AT MOST 1048576: true; the input reads as it did. -/
def qrversionSmallestUptoRow : OpenClaim := { program := "ythebfpolijajgaa", sum := "0d1679f3d16ad710926816f607ffeba5b34628caa194656091bafab2c4e0b0f5", func := "barscan/barscanlaw17.QrversionSmallest", spec := "qrversionSmallest", inPlace := ["internal/bytealg.IndexByteString"], apart := false, narrowed := true }
def QrversionSmallestUptoSaid : Prop := qrversionSmallestUptoRow.holds Try.pinned (OpenSpec.upto qrversionSmallestSpec)

/-- 'barscanlaw16.ModesLimits', WHERE WHAT IT READS IS OF BULK AT MOST 1048576: true; the input reads as it did. -/
def modesLimitsUptoRow : OpenClaim := { program := "ythebfpolijajgaa", sum := "0d1679f3d16ad710926816f607ffeba5b34628caa194656091bafab2c4e0b0f5", func := "barscan/barscanlaw16.ModesLimits", spec := "modesLimits", inPlace := ["internal/bytealg.IndexByteString"], apart := false, narrowed := true }
def ModesLimitsUptoSaid : Prop := modesLimitsUptoRow.holds Try.pinned (OpenSpec.upto modesLimitsSpec)

/-- 'barscanlaw16.ModesDecodes', WHERE WHAT IT READS IS OF BULK AT MOST 1048576: true; the input reads as it did. -/
def modesDecodesUptoRow : OpenClaim := { program := "ythebfpolijajgaa", sum := "0d1679f3d16ad710926816f607ffeba5b34628caa194656091bafab2c4e0b0f5", func := "barscan/barscanlaw16.ModesDecodes", spec := "modesDecodes", inPlace := ["internal/bytealg.IndexByteString"], apart := false, narrowed := true }
def ModesDecodesUptoSaid : Prop := modesDecodesUptoRow.holds Try.pinned (OpenSpec.upto modesDecodesSpec)

/-- 'barscanlaw16.ModesBest', WHERE WHAT IT READS IS OF BULK AT MOST 1048576: true; the input reads as it did. -/
def modesBestUptoRow : OpenClaim := { program := "ythebfpolijajgaa", sum := "0d1679f3d16ad710926816f607ffeba5b34628caa194656091bafab2c4e0b0f5", func := "barscan/barscanlaw16.ModesBest", spec := "modesBest", inPlace := ["internal/bytealg.IndexByteString"], apart := false, narrowed := true }
def ModesBestUptoSaid : Prop := modesBestUptoRow.holds Try.pinned (OpenSpec.upto modesBestSpec)

/-- 'barscanlaw16.ModesRoundTrip', WHERE WHAT IT READS IS OF BULK AT MOST 1048576: true; the input reads as it did. -/
def modesRoundTripUptoRow : OpenClaim := { program := "ythebfpolijajgaa", sum := "0d1679f3d16ad710926816f607ffeba5b34628caa194656091bafab2c4e0b0f5", func := "barscan/barscanlaw16.ModesRoundTrip", spec := "modesRoundTrip", inPlace := ["internal/bytealg.IndexByteString"], apart := false, narrowed := true }
def ModesRoundTripUptoSaid : Prop := modesRoundTripUptoRow.holds Try.pinned (OpenSpec.upto modesRoundTripSpec)

/-- 'barscanlaw16.ModesMinimal', WHERE WHAT IT READS IS OF BULK AT MOST 1048576: true; the input reads as it did. -/
def modesMinimalUptoRow : OpenClaim := { program := "ythebfpolijajgaa", sum := "0d1679f3d16ad710926816f607ffeba5b34628caa194656091bafab2c4e0b0f5", func := "barscan/barscanlaw16.ModesMinimal", spec := "modesMinimal", inPlace := ["internal/bytealg.IndexByteString"], apart := false, narrowed := true }
def ModesMinimalUptoSaid : Prop := modesMinimalUptoRow.holds Try.pinned (OpenSpec.upto modesMinimalSpec)

/-- 'barscanlaw16.ModesMonotone', WHERE WHAT IT READS IS OF BULK AT MOST 1048576: true; the input reads as it did. -/
def modesMonotoneUptoRow : OpenClaim := { program := "ythebfpolijajgaa", sum := "0d1679f3d16ad710926816f607ffeba5b34628caa194656091bafab2c4e0b0f5", func := "barscan/barscanlaw16.ModesMonotone", spec := "modesMonotone", inPlace := ["internal/bytealg.IndexByteString"], apart := false, narrowed := true }
def ModesMonotoneUptoSaid : Prop := modesMonotoneUptoRow.holds Try.pinned (OpenSpec.upto modesMonotoneSpec)

/-- 'barscanlaw16.ModesPure', WHERE WHAT IT READS IS OF BULK AT MOST 1048576: true; the input reads as it did. -/
def modesPureUptoRow : OpenClaim := { program := "ythebfpolijajgaa", sum := "0d1679f3d16ad710926816f607ffeba5b34628caa194656091bafab2c4e0b0f5", func := "barscan/barscanlaw16.ModesPure", spec := "modesPure", inPlace := ["internal/bytealg.IndexByteString"], apart := false, narrowed := true }
def ModesPureUptoSaid : Prop := modesPureUptoRow.holds Try.pinned (OpenSpec.upto modesPureSpec)

/-- 'barscanlaw16.ModesBits', WHERE WHAT IT READS IS OF BULK AT MOST 1048576: true; the input reads as it did. -/
def modesBitsUptoRow : OpenClaim := { program := "ythebfpolijajgaa", sum := "0d1679f3d16ad710926816f607ffeba5b34628caa194656091bafab2c4e0b0f5", func := "barscan/barscanlaw16.ModesBits", spec := "modesBits", inPlace := ["internal/bytealg.IndexByteString"], apart := false, narrowed := true }
def ModesBitsUptoSaid : Prop := modesBitsUptoRow.holds Try.pinned (OpenSpec.upto modesBitsSpec)

/-- 'barscanlaw16.ModesClasses', WHERE WHAT IT READS IS OF BULK AT MOST 1048576: true; the input reads as it did. -/
def modesClassesUptoRow : OpenClaim := { program := "ythebfpolijajgaa", sum := "0d1679f3d16ad710926816f607ffeba5b34628caa194656091bafab2c4e0b0f5", func := "barscan/barscanlaw16.ModesClasses", spec := "modesClasses", inPlace := ["internal/bytealg.IndexByteString"], apart := false, narrowed := true }
def ModesClassesUptoSaid : Prop := modesClassesUptoRow.holds Try.pinned (OpenSpec.upto modesClassesSpec)

/-- 'barscanlaw17.QrversionFits', WHERE WHAT IT READS IS OF BULK AT MOST 1048576: true; the input reads as it did. -/
def qrversionFitsUptoRow : OpenClaim := { program := "ythebfpolijajgaa", sum := "0d1679f3d16ad710926816f607ffeba5b34628caa194656091bafab2c4e0b0f5", func := "barscan/barscanlaw17.QrversionFits", spec := "qrversionFits", inPlace := ["internal/bytealg.IndexByteString"], apart := false, narrowed := true }
def QrversionFitsUptoSaid : Prop := qrversionFitsUptoRow.holds Try.pinned (OpenSpec.upto qrversionFitsSpec)

end Rows
end Go.Proofs.Ythebfpolijajgaa
