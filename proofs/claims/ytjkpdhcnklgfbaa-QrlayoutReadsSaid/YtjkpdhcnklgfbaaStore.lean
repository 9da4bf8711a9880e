/-
  A struct is stored whole into a variable of the call's own: what else stays as it was.
  No condition; used by the other texts of the claim.
-/
import Derived.Test.YtjkpdhcnklgfbaaTabR
namespace Go.Bs
open Go Go.RowKit

theorem wpList_storeOwnK {P : Program} {ops : Array Oper} {rest : List Oper} {o : Oper} {a : Act} {Q : Exit → Act → World → Prop} {w : World} (hg : o.guard = none) (t : TypeId) (x y : Operand) (ho : o.op = .store t x y) (g : Nat) (cells : Array Value) (hx : a.eval x = .pointer (some ⟨g, 0, none⟩)) (hy : a.eval y = .agg cells)
    (tt : TypeId) (old : Array Value) (hgl : w.heap[g]? = some (.cells old tt (0, 0))) (hi : (P.info? t).map (·.size) = some cells.size)
    (hold : old.size = cells.size) (h1 : cells.all (·.oneCell') = true) (ws : World) (hb : Ext ws w) (hB : ws.heap.size ≤ g)
    (h : ∀ w', Ext ws w' → Hid (w'.heap[g]? = some (.cells cells tt (0, 0))) → Hid (∀ k, k ≠ g → w'.heap[k]? = w.heap[k]?) → wpList P ops Q rest (a.put o.dst undef) w') : wpList P ops Q (o :: rest) a w :=
  wpList_store_row hg t x y ho g cells hx hy tt old hgl hi hold h1 (h _ (hb.setRow g hB cells) (setRow_heap w g old cells tt (0, 0) hgl) (fun k hk => setRow_other w g k cells hk))

/-- A row of numbers that are not 0 lies elsewhere than a block that holds none of them. -/
theorem Row.off3 {w1 w2 : World} {g : Nat} {ao : Option Addr} {l : List Int} {t : TypeId} (hr : Row w1 ao (ints l)) (hp : ∀ a ∈ l, 1 ≤ a)
    (hg : w1.heap[g]? = some (.cells #[.int .i64 0, .int .i64 0, .slice none 0 0] t (0, 0))) (hk : ∀ k, k ≠ g → w2.heap[k]? = w1.heap[k]?) : Row w2 ao (ints l) := by
  intro i v hi
  obtain ⟨a, ha, hc⟩ := hr i v hi
  refine ⟨a, ha, ?_⟩
  obtain ⟨x, hx, rfl⟩ : ∃ x ∈ l, Value.int .i64 x = v := by
    have := List.mem_of_getElem? hi
    unfold ints at this
    exact List.mem_map.1 this
  have hx1 := hp x hx
  generalize a.add i = q at hc ⊢
  have hs := World.cell?_spot hc
  obtain ⟨b, off, sp⟩ := q
  simp only at hs
  subst hs
  by_cases hb : b = g
  · subst hb
    rw [cell_of_row _ _ _ _ _ _ hg] at hc
    match off, hc with
    | 0, hc => simp at hc; omega
    | 1, hc => simp at hc; omega
    | 2, hc => simp at hc
    | n + 3, hc => simp at hc
  · rw [← hc]
    exact World.cell?_of_block (hk b hb)

end Go.Bs
