/-
  A message (segments, and a header of three numbers) among the arguments.
  No condition; used by the other texts of the claim.
-/
import Derived.Test.YtbfcgggcdmafoaaSeg
import Derived.Lib.SmallJoins
namespace Go.Bs
open Go Go.RowKit Go.ChangeShapes Go.WideShapes Go.ChangeAt Go.Joins

theorem open_message {H : Type} {enc : TypeId × Value → H} {P : Program} {w : World} {base : Nat} {spare : Nat → Bool} {held : Bool} {r : Reach} {b0 : Nat} {t : TypeId} {f0 f1 a0 a1 a2 : Field} {v : Value} {d : DataW H} {p : List MemPlace}
    (hs : P.underlying t = some (.struct #[f0, f1])) (hC : P.cellsOf t = 4) (o0 : f0.offset = 0) (k0 : P.cellsOf f0.type = 1) (o1 : f1.offset = 1)
    (hs1 : P.underlying f1.type = some (.struct #[a0, a1, a2])) (k1 : P.cellsOf f1.type = 3) (q0 : a0.offset = 0) (q1 : a1.offset = 1) (q2 : a2.offset = 2)
    (m0 : P.cellsOf a0.type = 1) (m1 : P.cellsOf a1.type = 1) (m2 : P.cellsOf a2.type = 1)
    (i0 : P.underlying a0.type = some (.int .i64)) (i1 : P.underlying a1.type = some (.int .i64)) (i2 : P.underlying a2.type = some (.int .i64))
    (hv : Value.okWide P w r b0 t v) (h : DataW.Trod enc P w base spare held t v d p) :
    ∃ (c : Value) (x0 x1 x2 : Int) (y : DataW H × List MemPlace) (n : Nat), v = .agg #[c, .int .i64 x0, .int .i64 x1, .int .i64 x2] ∧ DataW.trod enc P w base spare held n f0.type [c] = some y ∧
      (Lit.int .i64 x0).wf = true ∧ (Lit.int .i64 x1).wf = true ∧ (Lit.int .i64 x2).wf = true := by
  obtain ⟨cs, rfl, hsz⟩ := okWide_struct hs hv
  obtain ⟨fuel, hf⟩ := h
  obtain ⟨y0, y1, n, hx, _, h0, h1⟩ := trod_struct2 hs hf
  rw [o0, k0] at h0
  rw [o1, k1] at h1
  obtain ⟨z0, z1, z2, n2, _, _, g0, g1, g2⟩ := Go.Deep.trod_struct3 hs1 h1
  rw [q0, m0] at g0
  rw [q1, m1] at g1
  rw [q2, m2] at g2
  rw [hC] at hsz
  obtain ⟨cl⟩ := cs
  match cl, hsz with
  | [c, c0, c1, c2], _ =>
    simp [Value.cells] at h0 g0 g1 g2
    obtain ⟨x0, e0, _, w0⟩ := DataW.trod_int i0 g0
    obtain ⟨x1, e1, _, w1⟩ := DataW.trod_int i1 g1
    obtain ⟨x2, e2, _, w2⟩ := DataW.trod_int i2 g2
    simp at e0 e1 e2
    subst e0 e1 e2
    exact ⟨c, x0, x1, x2, y0, n, rfl, h0, w0, w1, w2⟩

end Go.Bs
