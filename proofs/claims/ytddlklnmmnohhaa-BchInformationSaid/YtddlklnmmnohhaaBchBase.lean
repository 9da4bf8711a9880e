/-
  What the laws of this seat share.
  No condition.
-/
import Derived.Test.YtddlklnmmnohhaaBchH
import Derived.Test.YtddlklnmmnohhaaFrame
namespace Go.Proofs.Ytddlklnmmnohhaa
open Go.RowKit Go.Bs Go.ChangeShapes Go.WideShapes Go.ChangeAt Go.Joins

theorem Try.laidOut : laidOutB Try.prog = true := by kernel_rfl
theorem Try.own : ownKnob Try.prog.godebug = none := by kernel_rfl

theorem wf_u16_bd {n : Int} (h : (Lit.int .u16 n).wf = true) : 0 ≤ n ∧ n ≤ 65535 := by
  simpa [Lit.wf, IntKind.min, IntKind.max, IntKind.signed, IntKind.bits] using h
theorem wf_u32_bd {n : Int} (h : (Lit.int .u32 n).wf = true) : 0 ≤ n ∧ n ≤ 4294967295 := by
  simpa [Lit.wf, IntKind.min, IntKind.max, IntKind.signed, IntKind.bits] using h

end Go.Proofs.Ytddlklnmmnohhaa
