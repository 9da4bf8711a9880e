/-
  Results that lie in variables; what a later world still holds.
  No condition; used by the other texts of the claim.
-/
import Derived.Test.YtjkpdhcnklgfbaaTab
namespace Go.Bs
open Go Go.RowKit

/-- Results: a variable (an array or a struct) and a slot. -/
theorem results_cellSlot {P : Program} {fn : Func} {p u : Tmp} {ty : TypeId} (h : fn.results = #[.cell p ty, .tmp u]) (tmps : Array Value) (w : World) (g : Nat) (t : TypeId) (cs : Array Value) (fr : Nat × Nat) (d : TypeDesc)
    (hp : tmps.getD p undef = .pointer (some ⟨g, 0, none⟩)) (hg : w.heap[g]? = some (.cells cs t fr))
    (hu : P.underlying ty = some d) (hd : (match d with | .struct _ | .array _ _ => true | _ => false) = true) (hi : (P.info? ty).map (·.size) = some cs.size) :
    (results fn tmps).run P w = .ok (.tuple #[.agg cs, tmps.getD u undef]) w := by
  have hp' : tmps[p]?.getD undef = .pointer (some ⟨g, 0, none⟩) := by simpa using hp
  simp [results, h, hp', asAddr, run_loadVar_row w g t ty cs fr d hg hu hd hi]

theorem Ext.new {w w1 : World} {o : Obj} (h : Ext (w.alloc o) w1) : w1.heap[w.heap.size]? = some o :=
  (h.block w.heap.size (by simp)).trans (heap_alloc_new w o)
theorem Ext.old {w w1 : World} (h : Ext w w1) {g : Nat} {o : Obj} (hg : w.heap[g]? = some o) : w1.heap[g]? = some o :=
  (h.block g (by have := (Array.getElem?_eq_some_iff.1 hg).1; exact this)).trans hg

theorem Ext.set {ws w : World} (h : Ext ws w) {g : Nat} (hg : ws.heap.size ≤ g) (o : Nat) (v : Value) : Ext ws (w.setCell ⟨g, o, none⟩ v) := Below.setCell h hg v

end Go.Bs
