/-
  The contract of modes.Best.
  Conditions: the slice's cells are those of the list.
-/
import Derived.Test.YthebfpolijajgaaBestE
import Derived.Test.YthebfpolijajgaaModeN
namespace Go.Proofs.Ythebfpolijajgaa
open Go.RowKit Go.Bs Go.Mode

/-- A pointer is read out of an array's value. -/
theorem wpList_indexPtr {P : Program} {ops : Array Oper} {rest : List Oper} {o : Oper} {a : Act} {K : Exit → Act → World → Prop} {w : World} (hg : o.guard = none) (t : TypeId) (x i : Operand) (ho : o.op = .index t x i) (n : Nat) (e e' : TypeId) (hu : P.underlying t = some (.array n e)) (hue : P.underlying e = some (.pointer e')) (hse : (P.info? e).map (·.size) = some 1)
    (cs : Array Value) (hx : a.eval x = .agg cs) (ki : IntKind) (k : Nat) (hi : a.eval i = .int ki k) (hk : k < n) (v : Value) (hv : cs[k]? = some v)
    (h : wpList P ops K rest (a.put o.dst v) w) : wpList P ops K (o :: rest) a w := by
  refine wpList_plain hg fun K hK => ?_
  unfold Oper.wp execOp
  cases hq : P.info? e with
  | none => simp [hq] at hse
  | some ie =>
    have hs : ie.size = 1 := by simpa [hq] using hse
    simp [ho, hx, hi, Instr.index, asIntOf, run_underlying hu, sizeOf, typeInfo, hq, hs, hk, part, isAgg, run_underlying hue, hv, Sem.run_bind, Result.andThen]
    exact hK _ _ h

/-- Segments are returned, with their number of bits and an error's number. -/
def RetBest (w : World) (l : List SegD) (n c : Int) (e : Ending) (w' : World) : Prop :=
  ∃ ao cap, e = .returned (.tuple #[.slice ao l.length cap, .int .i64 n, .int .i64 c]) ∧ SegsN w' w.heap.size ao l ∧ l.length ≤ cap ∧ cap ≤ 9223372036854775807 ∧ Ext w w'
theorem RetBest.nil (w w' : World) (c : Int) (h : Ext w w') : RetBest w [] 0 c (.returned (.tuple #[.slice none 0 0, .int .i64 0, .int .i64 c])) w' :=
  ⟨none, 0, rfl, SegsN.nil _ _ _, Nat.le_refl _, by decide, h⟩

/-- What Best returns. -/
def bestRes (p : List UInt8) (c : Int) : List SegD × Int × Int :=
  if c < 0 ∨ 2 < c then ([], 0, 1) else if 4096 < p.length then ([], 0, 4) else (bestL c.toNat p, ((plan c.toNat p).bits : Int), 0)

/-- The three windows, of which the first i have been brought to a place. -/
structure Wins (w : World) (G H : Nat → Nat) (k n a : Nat) (p : List UInt8) (i : Nat) (Q : Nat → Nat → List Nat) : Prop where
  win : ∀ x, x < 3 → WinE w (G x) (H x) (md x) k n (if x < i then a else a + 1) (Q x)
  inv : ∀ x, x < 3 → ∀ j, j < 3 → QInv (md x) (planAt k p) p (2 ^ cntB (md x) k - 1) (if x < i then a else a + 1) j (Q x j)
/-- The blocks are different ones. -/
structure Apart (B : Nat) (G H : Nat → Nat) (gp gw : Nat) : Prop where
  gg : ∀ x y, x < 3 → y < 3 → x ≠ y → G x ≠ G y ∧ H x ≠ H y ∧ G x ≠ H y
  gh : ∀ x, x < 3 → G x ≠ H x
  pg : ∀ x, x < 3 → gp ≠ G x ∧ gp ≠ H x ∧ gw ≠ G x ∧ gw ≠ H x
  pw : gp ≠ gw
  up : ∀ x, x < 3 → B ≤ G x ∧ B ≤ H x
  pb : B ≤ gp ∧ B ≤ gw

theorem WinE.kept {w w2 : World} {g h : Nat} {m : Int} {k n r : Nat} {Q : Nat → List Nat} (x : WinE w g h m k n r Q) (h1 : w2.heap[g]? = w.heap[g]?) (h2 : w2.heap[h]? = w.heap[h]?) : WinE w2 g h m k n r Q := by
  obtain ⟨qv, ends, X⟩ := x
  exact ⟨qv, ends, X.kept h1 h2⟩
theorem WinE.less {w : World} {g h : Nat} {m : Int} {k n r : Nat} {Q : Nat → List Nat} (x : WinE w g h m k n (r + 1) Q) : WinE w g h m k n r Q := by
  obtain ⟨qv, ends, X⟩ := x
  exact ⟨qv, ends, X.ne, X.blk, X.row, X.len, fun j hj => (X.q j hj).less⟩
theorem WinE.lt {w : World} {g h : Nat} {m : Int} {k n r : Nat} {Q : Nat → List Nat} (x : WinE w g h m k n r Q) : g < w.heap.size ∧ h < w.heap.size := by
  obtain ⟨qv, ends, X⟩ := x
  exact ⟨(Array.getElem?_eq_some_iff.1 X.blk).1, (Array.getElem?_eq_some_iff.1 X.row).1⟩
theorem WinE.mode {w : World} {g h : Nat} {m : Int} {k n r : Nat} {Q : Nat → List Nat} (x : WinE w g h m k n r Q) : w.cell? ⟨g, 0, none⟩ = some (.int .i64 m) := by
  obtain ⟨qv, ends, X⟩ := x
  exact (winC_1 w g m k qv X.blk).1

/-- The window i has been brought on; all other blocks are as they were. -/
theorem Wins.step {w w2 : World} {G H : Nat → Nat} {k n a : Nat} {p : List UInt8} {i : Nat} {Q : Nat → Nat → List Nat} {B gp gw : Nat} (x : Wins w G H k n a p i Q) (hap : Apart B G H gp gw) (hi : i < 3) (hm : Mod (G i) (H i) w w2) (Qi : Nat → List Nat)
    (hw : WinE w2 (G i) (H i) (md i) k n a Qi) (hq : ∀ j, j < 3 → QInv (md i) (planAt k p) p (2 ^ cntB (md i) k - 1) a j (Qi j)) : Wins w2 G H k n a p (i + 1) (upd Q i Qi) := by
  refine ⟨fun y hy => ?_, fun y hy j hj => ?_⟩
  · by_cases e : y = i
    · subst e
      rw [if_pos (by omega)]
      simpa [upd] using hw
    · have h1 := x.win y hy
      have h2 := hap.gg y i hy hi e
      have h3 := hap.gg i y hi hy (fun h => e h.symm)
      have h4 := h1.lt
      rw [show (if y < i + 1 then a else a + 1) = if y < i then a else a + 1 by by_cases h : y < i; (rw [if_pos h, if_pos (by omega)]); (rw [if_neg h, if_neg (by omega)])]
      simp only [upd, if_neg e]
      exact h1.kept (hm.block _ h4.1 h2.1 h2.2.2) (hm.block _ h4.2 (fun e2 => h3.2.2 e2.symm) h2.2.1)
  · by_cases e : y = i
    · subst e
      rw [if_pos (by omega)]
      simpa [upd] using hq j hj
    · rw [show (if y < i + 1 then a else a + 1) = if y < i then a else a + 1 by by_cases h : y < i; (rw [if_pos h, if_pos (by omega)]); (rw [if_neg h, if_neg (by omega)])]
      simp only [upd, if_neg e]
      exact x.inv y hy j hj
theorem Wins.kept {w w2 : World} {G H : Nat → Nat} {k n a : Nat} {p : List UInt8} {i : Nat} {Q : Nat → Nat → List Nat} (x : Wins w G H k n a p i Q) (h : ∀ y, y < 3 → w2.heap[G y]? = w.heap[G y]? ∧ w2.heap[H y]? = w.heap[H y]?) : Wins w2 G H k n a p i Q :=
  ⟨fun y hy => (x.win y hy).kept (h y hy).1 (h y hy).2, x.inv⟩
theorem Wins.next {w : World} {G H : Nat → Nat} {k n a : Nat} {p : List UInt8} {Q : Nat → Nat → List Nat} (x : Wins w G H k n (a + 1) p 3 Q) : Wins w G H k n a p 0 Q :=
  ⟨fun y hy => by have := x.win y hy; rw [if_pos hy] at this; rw [if_neg (by omega)]; exact this, fun y hy j hj => by have := x.inv y hy j hj; rw [if_pos hy] at this; rw [if_neg (by omega)]; exact this⟩

end Go.Proofs.Ythebfpolijajgaa
