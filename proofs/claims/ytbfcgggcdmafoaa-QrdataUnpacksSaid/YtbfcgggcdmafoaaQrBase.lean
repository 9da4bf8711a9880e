/-
  What the laws of this seat share.
  No condition.
-/
import Derived.Test.YtbfcgggcdmafoaaQrG
import Derived.Test.YtbfcgggcdmafoaaFrame
namespace Go.Proofs.Ytbfcgggcdmafoaa
open Go.RowKit Go.Bs Go.ChangeShapes Go.WideShapes Go.ChangeAt Go.Joins

theorem Try.laidOut : laidOutB Try.prog = true := by kernel_rfl
theorem Try.own : ownKnob Try.prog.godebug = none := by kernel_rfl
theorem Try.cellsBool : Try.prog.cellsOf 4 = 1 := by kernel_rfl
theorem Try.cellsInt : Try.prog.cellsOf 3 = 1 := by kernel_rfl
theorem Try.cellsByte : Try.prog.cellsOf 5 = 1 := by kernel_rfl

end Go.Proofs.Ytbfcgggcdmafoaa
