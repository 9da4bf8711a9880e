/-
  What the laws of this seat share.
  No condition.
-/
import Derived.Test.YtnmmpgjcikhnhaaVerG
import Derived.Test.YtnmmpgjcikhnhaaFrame
namespace Go.Proofs.Ytnmmpgjcikhnhaa
open Go.RowKit Go.Bs Go.ChangeShapes Go.WideShapes Go.ChangeAt Go.Joins

theorem Try.laidOut : laidOutB Try.prog = true := by kernel_rfl
theorem Try.own : ownKnob Try.prog.godebug = none := by kernel_rfl

end Go.Proofs.Ytnmmpgjcikhnhaa
