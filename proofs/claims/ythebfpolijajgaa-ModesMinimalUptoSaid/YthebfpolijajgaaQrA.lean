/-
  Contracts of the buffer's methods number, all, zeros, used and of the writer's left.
  Conditions: the receiver's block is of the caller's own; few bits.
-/
import Derived.Test.YthebfpolijajgaaModeI
import Derived.Test.YthebfpolijajgaaZeros
namespace Go.Proofs.Ythebfpolijajgaa
open Go.RowKit Go.Bs Go.Mode

/-- The block g begins with a slice of bits that lies behind g. -/
def Buf (g : Nat) (tt : TypeId) (w : World) (s : Value) (n : Nat) (xs : List Bool) (rest : List Value) : Prop :=
  w.heap[g]? = some (.cells (s :: rest).toArray tt (0, 0)) ∧ w.ownsRow (g + 1) 4 1 s n (bools xs)
def BufPost (g : Nat) (tt : TypeId) (w : World) (n : Nat) (xs : List Bool) (rest : List Value) (e : Ending) (w' : World) : Prop :=
  ∃ s', e = .returned (.tuple #[]) ∧ Buf g tt w' s' n xs rest ∧ Below g w w'

theorem heap_setS (w : World) (g : Nat) (s v : Value) (rest : List Value) (tt : TypeId) (h : w.heap[g]? = some (.cells (s :: rest).toArray tt (0, 0))) :
    (w.setCell ⟨g, 0, none⟩ v).heap[g]? = some (.cells (v :: rest).toArray tt (0, 0)) := by
  simp [World.setCell, Array.getElem?_modify, h]

theorem Buf.lt {g : Nat} {tt : TypeId} {w : World} {s : Value} {n : Nat} {xs : List Bool} {rest : List Value} (h : Buf g tt w s n xs rest) : g < w.heap.size := (Array.getElem?_eq_some_iff.1 h.1).1
theorem Buf.cell0 {g : Nat} {tt : TypeId} {w : World} {s : Value} {n : Nat} {xs : List Bool} {rest : List Value} (h : Buf g tt w s n xs rest) : w.cell? ⟨g, 0, none⟩ = some s := by
  rw [cell_of_row w g 0 _ tt (0, 0) h.1]; simp
theorem Buf.cell1 {g : Nat} {tt : TypeId} {w : World} {s u : Value} {n : Nat} {xs : List Bool} (h : Buf g tt w s n xs [u]) : w.cell? ⟨g, 1, none⟩ = some u := by
  rw [cell_of_row w g 1 _ tt (0, 0) h.1]; simp
theorem frozen_of_row (w : World) (g i : Nat) (cs : Array Value) (tt : TypeId) (h : w.heap[g]? = some (.cells cs tt (0, 0))) : w.frozen? ⟨g, i, none⟩ = false := by
  simp [World.frozen?, h]

/-- The slice behind the receiver has grown, and is stored. -/
theorem Buf.stored {g : Nat} {tt : TypeId} {w w2 : World} {s s2 : Value} {n n2 : Nat} {xs ys : List Bool} {rest : List Value} (h : Buf g tt w s n xs rest) (ho : w2.ownsRow (g + 1) 4 1 s2 n2 (bools ys)) (hk : Keep w s w2 s2) :
    Buf g tt (w2.setCell ⟨g, 0, none⟩ s2) s2 n2 ys rest ∧ Below g w (w2.setCell ⟨g, 0, none⟩ s2) := by
  have hb : w2.heap[g]? = w.heap[g]? := hk.block g h.lt (own_below h.2 (Nat.lt_succ_self g))
  refine ⟨⟨heap_setS w2 g s s2 rest tt (hb.trans h.1), ownsRow_setCell_below ho (Nat.lt_succ_self g) _⟩, ?_⟩
  exact (hk.below (Nat.le_of_lt h.lt) (fun k hk => by have := (h.2.lt k hk).1; omega)).setCell (Nat.le_refl _) _

theorem bools_replicate (m : Nat) : bools (List.replicate m false) = List.replicate m (.bool false) := by simp [bools]

theorem Buf.drewN {g : Nat} {tt : TypeId} {w : World} {s : Value} {n : Nat} {xs : List Bool} {rest : List Value} (h : Buf g tt w s n xs rest) (k : Nat) : Buf g tt (w.drewN k) s n xs rest :=
  ⟨(Below.block ((Ext.refl w).drewN k) g h.lt).trans h.1, own_extN h.2 ((Ext.refl w).drewN k)⟩

end Go.Proofs.Ythebfpolijajgaa
