/-
  Words for what a function returns: a slice (its cells given), with or without an error code; nothing that was there has changed.
  No condition; used by the other texts of the claim.
-/
import Derived.Test.YtjkpdhcnklgfbaaLib
namespace Go.Bs
open Go Go.RowKit

/-- A slice (its cells given) and an error code are returned; nothing that was there has changed. -/
def RetSl (w : World) (p : List Value × Int) (e : Ending) (w' : World) : Prop :=
  ∃ ao cap, e = .returned (.tuple #[.slice ao p.1.length cap, .int .i64 p.2]) ∧ Row w' ao p.1 ∧ p.1.length ≤ cap ∧ cap ≤ 9223372036854775807 ∧ (ao = none → cap = 0) ∧ Ext w w'

theorem RetSl.nil (w w' : World) (c : Int) (h : Ext w w') : RetSl w ([], c) (.returned (.tuple #[.slice none 0 0, .int .i64 c])) w' :=
  ⟨none, 0, rfl, Row.nil _ _, Nat.le_refl _, by decide, fun _ => rfl, h⟩

theorem RetSl.own {w w' : World} {B : Nat} {e : TypeId} {s : Value} {n : Nat} {xs : List Value} {c : Int} (h : w'.ownsRow B e 1 s n xs) (hx : Ext w w') :
    RetSl w (xs, c) (.returned (.tuple #[s, .int .i64 c])) w' := by
  obtain ⟨ao, cap, rfl, h1, h2, h3, h4⟩ := own_row h
  refine ⟨ao, cap, by rw [h3], h4, by rw [h3]; exact h1, by unfold maxLen at h2; omega, ?_, hx⟩
  intro ha
  subst ha
  rcases h.2 with ⟨hv, _⟩ | ⟨g, cap', cur, hv, _⟩
  · simp at hv; exact hv.2
  · simp at hv

/-- Bytes are returned; nothing that was there has changed. -/
def RetRow (w : World) (cs : List Value) (e : Ending) (w' : World) : Prop :=
  ∃ ao cap, e = .returned (.slice ao cs.length cap) ∧ Row w' ao cs ∧ cs.length ≤ cap ∧ cap ≤ 9223372036854775807 ∧ (ao = none → cap = 0) ∧ Ext w w'
theorem RetRow.own {w w' : World} {B : Nat} {e : TypeId} {s : Value} {n : Nat} {xs : List Value} (h : w'.ownsRow B e 1 s n xs) (hx : Ext w w') : RetRow w xs (.returned s) w' := by
  obtain ⟨ao, cap, rfl, h1, h2, h3, h4⟩ := own_row h
  refine ⟨ao, cap, by rw [h3], h4, by rw [h3]; exact h1, by unfold maxLen at h2; omega, ?_, hx⟩
  intro ha
  subst ha
  rcases h.2 with ⟨hv, _⟩ | ⟨g, cap', cur, hv, _⟩
  · simp at hv; exact hv.2
  · simp at hv

theorem RetSl.bools {w w' : World} {xs : List Bool} {c : Int} {e : Ending} (h : RetSl w (bools xs, c) e w') :
    ∃ ao cap, e = .returned (.tuple #[.slice ao xs.length cap, .int .i64 c]) ∧ Row w' ao (bools xs) ∧ xs.length ≤ cap ∧ cap ≤ 9223372036854775807 ∧ (ao = none → cap = 0) ∧ Ext w w' := by
  obtain ⟨ao, cap, h1, h2, h3, h4, h5, h6⟩ := h
  rw [length_bools] at h1 h3
  exact ⟨ao, cap, h1, h2, h3, h4, h5, h6⟩
theorem RetSl.ints {w w' : World} {xs : List Int} {c : Int} {e : Ending} (h : RetSl w (ints xs, c) e w') :
    ∃ ao cap, e = .returned (.tuple #[.slice ao xs.length cap, .int .i64 c]) ∧ Row w' ao (ints xs) ∧ xs.length ≤ cap ∧ cap ≤ 9223372036854775807 ∧ (ao = none → cap = 0) ∧ Ext w w' := by
  obtain ⟨ao, cap, h1, h2, h3, h4, h5, h6⟩ := h
  rw [length_ints] at h1 h3
  exact ⟨ao, cap, h1, h2, h3, h4, h5, h6⟩
theorem RetRow.byts {w w' : World} {xs : List UInt8} {e : Ending} (h : RetRow w (byts xs) e w') :
    ∃ ao cap, e = .returned (.slice ao xs.length cap) ∧ Row w' ao (byts xs) ∧ xs.length ≤ cap ∧ cap ≤ 9223372036854775807 ∧ (ao = none → cap = 0) ∧ Ext w w' := by
  obtain ⟨ao, cap, h1, h2, h3, h4, h5, h6⟩ := h
  rw [length_byts] at h1 h3
  exact ⟨ao, cap, h1, h2, h3, h4, h5, h6⟩

/-- A slice literal that has just been laid. -/
theorem Row.lit (w : World) (cs : List Value) (t : TypeId) : Row (w.alloc (.cells cs.toArray t)) (some ⟨w.heap.size, 0, none⟩) cs := by
  intro i v hi
  refine ⟨_, rfl, ?_⟩
  rw [show (⟨w.heap.size, 0, none⟩ : Addr).add i = ⟨w.heap.size, i, none⟩ by unfold Addr.add; split <;> simp_all]
  rw [cell_of_row _ w.heap.size i cs.toArray t (0, 0) (heap_alloc_new w _)]
  simpa using hi


theorem RetRow.ints {w w' : World} {xs : List Int} {e : Ending} (h : RetRow w (ints xs) e w') :
    ∃ ao cap, e = .returned (.slice ao xs.length cap) ∧ Row w' ao (ints xs) ∧ xs.length ≤ cap ∧ cap ≤ 9223372036854775807 ∧ (ao = none → cap = 0) ∧ Ext w w' := by
  obtain ⟨ao, cap, h1, h2, h3, h4, h5, h6⟩ := h
  rw [length_ints] at h1 h3
  exact ⟨ao, cap, h1, h2, h3, h4, h5, h6⟩
theorem RetRow.bools {w w' : World} {xs : List Bool} {e : Ending} (h : RetRow w (bools xs) e w') :
    ∃ ao cap, e = .returned (.slice ao xs.length cap) ∧ Row w' ao (bools xs) ∧ xs.length ≤ cap ∧ cap ≤ 9223372036854775807 ∧ (ao = none → cap = 0) ∧ Ext w w' := by
  obtain ⟨ao, cap, h1, h2, h3, h4, h5, h6⟩ := h
  rw [length_bools] at h1 h3
  exact ⟨ao, cap, h1, h2, h3, h4, h5, h6⟩

theorem results_tmp4 {fn : Func} {t u v x : Tmp} (h : fn.results = #[.tmp t, .tmp u, .tmp v, .tmp x]) (tmps : Array Value) (P : Program) (w : World) :
    (results fn tmps).run P w = .ok (.tuple #[tmps.getD t undef, tmps.getD u undef, tmps.getD v undef, tmps.getD x undef]) w := by
  simp [results, h]
def two (p : Int × Int) : Value := .tuple #[.int .i64 p.1, .int .i64 p.2]
def three (p : Int × Int × Int) : Value := .tuple #[.int .i64 p.1, .int .i64 p.2.1, .int .i64 p.2.2]
def four (p : Int × Int × Int × Int) : Value := .tuple #[.int .i64 p.1, .int .i64 p.2.1, .int .i64 p.2.2.1, .int .i64 p.2.2.2]

end Go.Bs
