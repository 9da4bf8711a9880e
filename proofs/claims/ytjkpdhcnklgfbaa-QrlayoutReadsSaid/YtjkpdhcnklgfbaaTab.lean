/-
  Laws at the operations build, alloc, store and load of arrays and structs of many cells; a table that a function lays, and reads one row of.
  No condition; used by the other texts of the claim.
-/
import Derived.Test.YtjkpdhcnklgfbaaLib
import Derived.Laws.Tables
import Derived.Laws.Rows
namespace Go.Bs
open Go Go.RowKit

section laws
variable {P : Program} {ops : Array Oper} {rest : List Oper} {o o' : Oper} {a : Act} {Q : Exit → Act → World → Prop} {w : World}

theorem wpList_buildTo (hg : o.guard = none) (t : TypeId) (parts : Array (Nat × Operand)) (ho : o.op = .build t parts) (cells : Array Value)
    (hf : P.built t (parts.map fun (i, x) => (i, a.eval x)).toList = some cells)
    (h : wpList P ops Q rest (a.put o.dst (.agg cells)) w) : wpList P ops Q (o :: rest) a w :=
  wpList_build hg t parts ho (by rw [hf]; rfl) (by rw [hf]; exact h)

theorem wpList_allocAgg (hg : o.guard = none) (t : TypeId) (ho : o.op = .alloc t) (z : Array Value) (hz : (P.info? t).bind (·.zero) = some (.agg z))
    (h : wpList P ops Q rest (a.put o.dst (.pointer (some ⟨w.heap.size, 0, none⟩))) (w.alloc (.cells z t))) : wpList P ops Q (o :: rest) a w := by
  refine wpList_plain hg fun K hK => ?_
  unfold Oper.wp
  cases hi : P.info? t with
  | none => simp [hi] at hz
  | some i =>
    have hz' : i.zero = some (.agg z) := by simpa [hi] using hz
    simp [execOp, ho, Instr.alloc, zeroValue, typeInfo, hi, hz', newVar, newRow, Value.cells, Result.andThen]
    exact hK _ _ h

theorem setRow_alloc (w : World) (old cells : Array Value) (t : TypeId) : (w.alloc (.cells old t)).setRow w.heap.size cells = w.alloc (.cells cells t) := by
  unfold World.setRow World.alloc
  congr 1
  apply Array.ext_getElem?
  intro i
  rw [Array.getElem?_modify, Array.getElem?_push, Array.getElem?_push]
  by_cases h : i = w.heap.size
  · subst h; simp
  · rw [if_neg h, if_neg (fun e => h e.symm), if_neg h]

/-- A new variable gets its value. -/
theorem wpList_storeNew (hg : o.guard = none) (t : TypeId) (x y : Operand) (ho : o.op = .store t x y) (w0 : World) (old cells : Array Value) (hw : w = w0.alloc (.cells old t))
    (hx : a.eval x = .pointer (some ⟨w0.heap.size, 0, none⟩)) (hy : a.eval y = .agg cells) (hi : (P.info? t).map (·.size) = some cells.size)
    (hold : old.size = cells.size) (h1 : cells.all (·.oneCell') = true)
    (h : wpList P ops Q rest (a.put o.dst undef) (w0.alloc (.cells cells t))) : wpList P ops Q (o :: rest) a w := by
  subst hw
  refine wpList_store_row hg t x y ho w0.heap.size cells hx hy t old (heap_alloc_new _ _) hi hold h1 ?_
  rw [setRow_alloc]
  exact h

theorem run_loadAgg (w : World) (t : TypeId) (d : TypeDesc) (hu : P.underlying t = some d) (hd : (match d with | .struct _ | .array _ _ => true | _ => false) = true)
    (ad : Addr) (cs : List Value) (hr : Row w (some ad) cs) (hi : (P.info? t).map (·.size) = some cs.length) : (loadVar t ad).run P w = .ok (.agg cs.toArray) w := by
  have hl := loadCells_row (P := P) hr
  cases hq : P.info? t with
  | none => simp [hq] at hi
  | some i =>
    have hs : i.size = cs.length := by simpa [hq] using hi
    have hagg : (isAgg t).run P w = .ok true w := by
      unfold isAgg
      rw [Sem.run_bind, run_underlying hu w]
      cases d <;> simp_all
    simp [loadVar, Sem.run_bind, hagg, sizeOf, typeInfo, hq, hs, hl]

/-- An array or a struct is read out of a row of cells. -/
theorem wpList_loadAgg (hg : o.guard = none) (t : TypeId) (x : Operand) (ho : o.op = .load t x) (d : TypeDesc) (hu : P.underlying t = some d) (hd : (match d with | .struct _ | .array _ _ => true | _ => false) = true)
    (ad : Addr) (hx : a.eval x = .pointer (some ad)) (cs : List Value) (hr : Row w (some ad) cs) (hi : (P.info? t).map (·.size) = some cs.length)
    (h : wpList P ops Q rest (a.put o.dst (.agg cs.toArray)) w) : wpList P ops Q (o :: rest) a w := by
  refine wpList_plain hg fun K hK => ?_
  unfold Oper.wp execOp
  simp only [ho, hx, Instr.loadAt, Instr.sureAddr, Sem.run_bind, Sem.run_pure, Result.andThen_ok, run_loadAgg w t d hu hd ad cs hr hi]
  exact hK _ _ h

/-- A number is read out of an array's value. -/
theorem wpList_indexAgg (hg : o.guard = none) (t : TypeId) (x i : Operand) (ho : o.op = .index t x i) (n : Nat) (e : TypeId) (hu : P.underlying t = some (.array n e)) (kd : IntKind) (hue : P.underlying e = some (.int kd)) (hse : (P.info? e).map (·.size) = some 1)
    (cs : Array Value) (hx : a.eval x = .agg cs) (ki : IntKind) (k : Nat) (hi : a.eval i = .int ki k) (hk : k < n) (v : Value) (hv : cs[k]? = some v)
    (h : wpList P ops Q rest (a.put o.dst v) w) : wpList P ops Q (o :: rest) a w := by
  refine wpList_plain hg fun K hK => ?_
  unfold Oper.wp execOp
  cases hq : P.info? e with
  | none => simp [hq] at hse
  | some ie =>
    have hs : ie.size = 1 := by simpa [hq] using hse
    simp [ho, hx, hi, Instr.index, asIntOf, run_underlying hu, sizeOf, typeInfo, hq, hs, hk, part, isAgg, run_underlying hue, hv, Sem.run_bind, Result.andThen]
    exact hK _ _ h

theorem Ext.setRow {ws w : World} (hb : Ext ws w) (g : Nat) (hB : ws.heap.size ≤ g) (cells : Array Value) : Ext ws (w.setRow g cells) :=
  ⟨hb.os, hb.tape, hb.output, by rw [setRow_size]; exact hb.size, fun k hk => (setRow_other w g k cells (by omega)).trans (hb.block k hk)⟩

/-- An array or a struct is stored whole into a block of the call's own. -/
theorem wpList_storeOwn (hg : o.guard = none) (t : TypeId) (x y : Operand) (ho : o.op = .store t x y) (g : Nat) (cells : Array Value) (hx : a.eval x = .pointer (some ⟨g, 0, none⟩)) (hy : a.eval y = .agg cells)
    (tt : TypeId) (old : Array Value) (hgl : w.heap[g]? = some (.cells old tt (0, 0))) (hi : (P.info? t).map (·.size) = some cells.size)
    (hold : old.size = cells.size) (h1 : cells.all (·.oneCell') = true) (ws : World) (hb : Ext ws w) (hB : ws.heap.size ≤ g)
    (h : ∀ w', Ext ws w' → Hid (w'.heap[g]? = some (.cells cells tt (0, 0))) → wpList P ops Q rest (a.put o.dst undef) w') : wpList P ops Q (o :: rest) a w :=
  wpList_store_row hg t x y ho g cells hx hy tt old hgl hi hold h1 (h _ (hb.setRow g hB cells) (setRow_heap w g old cells tt (0, 0) hgl))

end laws

theorem all_ints (l : List Int) : (ints l).toArray.all (·.oneCell') = true := by
  rw [Array.all_eq_true_iff_forall_mem]
  intro v hv
  exact ints_oneCell' l v (by simpa using hv)

theorem add_zero_off (g i : Nat) : (⟨g, 0, none⟩ : Addr).add i = ⟨g, i, none⟩ := by unfold Addr.add; split <;> simp_all
theorem add_off (g i j : Nat) : (⟨g, i, none⟩ : Addr).add j = ⟨g, i + j, none⟩ := by unfold Addr.add; split <;> simp_all

/-- A part of a block. -/
theorem Row.block {w : World} {g : Nat} {cs : Array Value} {t : TypeId} {fr : Nat × Nat} (hg : w.heap[g]? = some (.cells cs t fr)) (i n : Nat) : Row w (some ⟨g, i, none⟩) ((cs.toList.drop i).take n) := by
  intro j v hj
  refine ⟨_, rfl, ?_⟩
  rw [add_off, cell_of_row w g _ cs t fr hg]
  rw [List.getElem?_take] at hj
  split at hj
  · rw [List.getElem?_drop] at hj
    simpa using hj
  · cases hj

/-- A new variable's cells are written whole; a part of them is read. -/
theorem run_storeNew2 (P : Program) (w : World) (o : Obj) (old cells : Array Value) (t : TypeId) (hs : old.size = cells.size) (h1 : cells.all (·.oneCell') = true) :
    (storeCells ⟨w.heap.size + 1, 0, none⟩ cells.toList).run P ((w.alloc o).alloc (.cells old t)) = .ok () ((w.alloc o).alloc (.cells cells t)) := by
  have hz : (w.alloc o).heap.size = w.heap.size + 1 := by simp
  have hg := heap_alloc_new (w.alloc o) (.cells old t)
  rw [hz] at hg
  have := run_storeCells_from (P := P) (w.heap.size + 1) t cells.toList 0 old _ hg (by simp; omega) (fun v hv => (Array.all_eq_true_iff_forall_mem.1 h1) v (by simpa using hv))
  rw [this, ← hz]
  congr 1
  rw [← setRow_alloc (w.alloc o) old cells t]
  congr 1
theorem run_loadNew2 (P : Program) (w : World) (o : Obj) (cells : Array Value) (t : TypeId) (i n : Nat) (h : i + n ≤ cells.size) :
    (loadCells ⟨w.heap.size + 1, i, none⟩ n).run P ((w.alloc o).alloc (.cells cells t)) = .ok ((cells.toList.drop i).take n).toArray ((w.alloc o).alloc (.cells cells t)) := by
  have hz : (w.alloc o).heap.size = w.heap.size + 1 := by simp
  have hg := heap_alloc_new (w.alloc o) (.cells cells t)
  rw [hz] at hg
  have := loadCells_row (P := P) (Row.block hg i n)
  rw [show ((cells.toList.drop i).take n).length = n by simp; omega] at this
  exact this

end Go.Bs
