/-
  What the proofs of the rows share: the arguments read behind the call as before it; a slice among the arguments as a list.
  No condition.
-/
import Derived.Test.YtjkpdhcnklgfbaaRows
import Derived.Test.YtjkpdhcnklgfbaaLib
import Derived.ProofKit
import Derived.OpenShut
import Derived.Deep.Grids
import Derived.Carry
import Derived.Lib.SmallJoins
namespace Go.Bs
open Go Go.RowKit Go.ChangeShapes Go.WideShapes Go.ChangeAt

section
variable {H : Type} {enc : TypeId × Value → H} {P : Program}

theorem args_stay (hl : laidOutB P = true) {W W' : World} (hb : Below W.heap.size W W') : ∀ (ts : List TypeId) (vs : List Value) (ds : List (DataW H)) (ps : List MemPlace),
    (ts.all fun t => P.readableRec t && decide (t < P.types.size)) = true → DataW.TrodAll enc P W 0 (fun _ => true) true ts vs ds ps → (∀ x ∈ ps, x.block < W.heap.size) →
    DataW.TrodAll enc P W' 0 (fun b => decide (b < W.heap.size)) true ts vs ds ps
  | [], vs, ds, ps, _, h, _ => by
    obtain ⟨rfl, rfl, rfl⟩ := trodAll_nil h
    exact trodAll_mk0
  | t :: ts, vs, ds, ps, hr, h, hlt => by
    obtain ⟨v, vs', d, ds', p, q, rfl, rfl, rfl, h1, h2⟩ := trodAll_cons h
    rw [List.all_cons, Bool.and_eq_true, Bool.and_eq_true] at hr
    exact trodAll_cons_mk (Below.trod hl hr.1.1 (of_decide_eq_true hr.1.2) h1 hb (fun x hx => hlt x (List.mem_append_left _ hx)))
      (args_stay hl hb ts vs' ds' q hr.2 h2 (fun x hx => hlt x (List.mem_append_right _ hx)))

/-- A slice among the arguments: its value, and its cells as a list. -/
def Sl (w : World) (v : Value) (cs : List Value) : Prop := ∃ ao len cap, v = .slice ao len cap ∧ cs.length = len ∧ len ≤ cap ∧ cap ≤ 9223372036854775807 ∧ (ao = none → cap = 0) ∧ Row w ao cs

theorem view_bools {w : World} {base : Nat} {held : Bool} {t e : TypeId} {fuel : Nat} {v : Value} {x : DataW H × List MemPlace} (ht : P.underlying t = some (.slice e)) (he : P.underlying e = some .bool) (hc : P.cellsOf e = 1)
    (h : DataW.trod enc P w base (fun _ => true) held fuel t [v] = some x) : ∃ xs : List Bool, Sl w v (bools xs) := by
  rcases Deep.open_bools ht he hc h with ⟨hcs, _⟩ | ⟨a, len, cap, B, hcs, _, hl, hm, _, hcell⟩
  · simp at hcs
    exact ⟨[], none, 0, 0, hcs, rfl, Nat.le_refl _, by decide, fun _ => rfl, Row.nil _ _⟩
  · simp at hcs
    refine ⟨(List.range len).map B, some a, len, cap, hcs, by simp [bools], hl, by unfold maxLen at hm; omega, fun h => (by cases h), fun i v hi => ⟨a, rfl, ?_⟩⟩
    have hi' : i < len := by simpa [bools] using (List.getElem?_eq_some_iff.1 hi).1
    rw [hcell i (by omega)]
    rw [bools_at _ _ (by simpa using hi')] at hi
    rw [← hi]; simp

theorem view_nums {w : World} {base : Nat} {held : Bool} {t e : TypeId} {k : IntKind} {fuel : Nat} {v : Value} {x : DataW H × List MemPlace} (ht : P.underlying t = some (.slice e)) (he : P.underlying e = some (.int k)) (hc : P.cellsOf e = 1)
    (h : DataW.trod enc P w base (fun _ => true) held fuel t [v] = some x) : ∃ zs : List Int, Sl w v (zs.map (Value.int k)) ∧ ∀ n ∈ zs, (Lit.int k n).wf = true := by
  rcases open_ints ht he hc h with ⟨hcs, _⟩ | ⟨a, len, cap, zs, hcs, _, hl, hm, hz, _, hcell, hw⟩
  · simp at hcs
    exact ⟨[], ⟨none, 0, 0, hcs, rfl, Nat.le_refl _, by decide, fun _ => rfl, Row.nil _ _⟩, fun n hn => by cases hn⟩
  · simp at hcs
    simp only [if_true] at hz
    refine ⟨zs.take len, ⟨some a, len, cap, hcs, by simp; omega, hl, by unfold maxLen at hm; omega, fun h => (by cases h), fun i v hi => ⟨a, rfl, ?_⟩⟩, fun n hn => hw n (List.mem_of_mem_take hn)⟩
    have hi' : i < len := by have := (List.getElem?_eq_some_iff.1 hi).1; simp at this; omega
    rw [hcell i (by omega)]
    rw [List.getElem?_map, List.getElem?_take, if_pos hi', List.getElem?_eq_getElem (by omega)] at hi
    rw [← hi]; simp [List.getD, List.getElem?_eq_getElem (show i < zs.length by omega)]

theorem wf_i64_bd {n : Int} (h : (Lit.int .i64 n).wf = true) : -9223372036854775808 ≤ n ∧ n ≤ 9223372036854775807 := by
  simpa [Lit.wf, IntKind.min, IntKind.max, IntKind.signed, IntKind.bits] using h
theorem wf_u8_bd {n : Int} (h : (Lit.int .u8 n).wf = true) : 0 ≤ n ∧ n ≤ 255 := by
  simpa [Lit.wf, IntKind.min, IntKind.max, IntKind.signed, IntKind.bits] using h

theorem view_byts {w : World} {base : Nat} {held : Bool} {t e : TypeId} {fuel : Nat} {v : Value} {x : DataW H × List MemPlace} (ht : P.underlying t = some (.slice e)) (he : P.underlying e = some (.int .u8)) (hc : P.cellsOf e = 1)
    (h : DataW.trod enc P w base (fun _ => true) held fuel t [v] = some x) : ∃ xs : List UInt8, Sl w v (byts xs) := by
  obtain ⟨zs, hs, hw⟩ := view_nums ht he hc h
  refine ⟨zs.map fun n => UInt8.ofNat n.toNat, ?_⟩
  have e1 : byts (zs.map fun n => UInt8.ofNat n.toNat) = zs.map (Value.int .u8) := by
    unfold byts
    rw [List.map_map]
    apply List.map_congr_left
    intro n hn
    have := wf_u8_bd (hw n hn)
    simp; omega
  rw [e1]
  exact hs
end
end Go.Bs
