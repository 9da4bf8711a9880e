/-
  A window's blocks; contracts of (*window).clear and (*window).push.
  Conditions: the blocks' cells are given; small numbers.
-/
import Derived.Test.YthebfpolijajgaaBestA
import Derived.Lib.JoinLaws
import Derived.Deep.RegionLaw
namespace Go.Proofs.Ythebfpolijajgaa
open Go.RowKit Go.Bs Go.Mode

def winC (m : Int) (k : Nat) (qv : Nat → Value) : Array Value :=
  #[.int .i64 m, .int .i64 (unitN m), .int .i64 (baseI m), .int .i64 (fullI m), .int .i64 0, .int .i64 (part1 m), .int .i64 (part2 m), .int .i64 (4 + cntB m k : Nat), .int .i64 (2 ^ cntB m k - 1 : Nat), qv 0, qv 1, qv 2]
def upd {α : Type} (f : Nat → α) (j : Nat) (v : α) : Nat → α := fun i => if i = j then v else f i
def QOk (h n r : Nat) (ends : List Value) (j : Nat) (v : Value) (Q : List Nat) : Prop :=
  ∃ off cap, v = .slice (some ⟨h, off, none⟩) Q.length cap ∧ j * n ≤ off ∧ off + cap ≤ (j + 1) * n ∧ Q.length + r ≤ cap ∧ cap ≤ n ∧ ∀ i e, Q[i]? = some e → ends[off + i]? = some (.int .i64 (e : Nat))
theorem QOk.less {h n r : Nat} {ends : List Value} {j : Nat} {v : Value} {Q : List Nat} (q : QOk h n (r + 1) ends j v Q) : QOk h n r ends j v Q := by
  obtain ⟨off, cap, h1, h2, h3, h4, h5⟩ := q
  exact ⟨off, cap, h1, h2, h3, by omega, h5⟩
structure Win (w : World) (g h : Nat) (m : Int) (k n r : Nat) (qv : Nat → Value) (ends : List Value) (Q : Nat → List Nat) : Prop where
  ne : g ≠ h
  blk : w.heap[g]? = some (.cells (winC m k qv) 98 (0, 0))
  row : w.heap[h]? = some (.cells ends.toArray 3 (0, 0))
  len : ends.length = 3 * n
  q : ∀ j, j < 3 → QOk h n r ends j (qv j) (Q j)
def WinE (w : World) (g h : Nat) (m : Int) (k n r : Nat) (Q : Nat → List Nat) : Prop := ∃ qv ends, Win w g h m k n r qv ends Q

/-- All blocks but two are as they were. -/
structure Mod (g h : Nat) (w w' : World) : Prop where
  os : w'.os = w.os
  tape : w'.tape = w.tape
  output : w'.output = w.output
  size : w.heap.size ≤ w'.heap.size
  block : ∀ i, i < w.heap.size → i ≠ g → i ≠ h → w'.heap[i]? = w.heap[i]?
theorem Mod.refl (g h : Nat) (w : World) : Mod g h w w := ⟨rfl, rfl, rfl, Nat.le_refl _, fun _ _ _ _ => rfl⟩
theorem Mod.trans {g h : Nat} {a b c : World} (x : Mod g h a b) (y : Mod g h b c) : Mod g h a c :=
  ⟨y.os.trans x.os, y.tape.trans x.tape, y.output.trans x.output, Nat.le_trans x.size y.size, fun i hi h1 h2 => (y.block i (Nat.lt_of_lt_of_le hi x.size) h1 h2).trans (x.block i hi h1 h2)⟩
theorem Mod.ofExt {g h : Nat} {a b : World} (x : Ext a b) : Mod g h a b := ⟨x.os, x.tape, x.output, x.size, fun i hi _ _ => x.block i hi⟩
theorem Mod.drewN (g h : Nat) (w : World) (x : Nat) : Mod g h w (w.drewN x) := Mod.ofExt ((Ext.refl w).drewN x)
theorem heap_setCell_other (w : World) (g o : Nat) (v : Value) (i : Nat) (hi : i ≠ g) : (w.setCell ⟨g, o, none⟩ v).heap[i]? = w.heap[i]? := by
  simp [World.setCell, Array.getElem?_modify]
  intro e
  exact absurd e.symm hi
theorem heap_setCell_same (w : World) (g o : Nat) (v : Value) (cs : Array Value) (t : TypeId) (fr : Nat × Nat) (hg : w.heap[g]? = some (.cells cs t fr)) : (w.setCell ⟨g, o, none⟩ v).heap[g]? = some (.cells (cs.setIfInBounds o v) t fr) := by
  simp [World.setCell, Array.getElem?_modify, hg]
theorem Mod.set {g h : Nat} {a b : World} (x : Mod g h a b) (i : Nat) (hi : i = g ∨ i = h) (o : Nat) (v : Value) : Mod g h a (b.setCell ⟨i, o, none⟩ v) :=
  ⟨x.os, x.tape, x.output, by have := x.size; simpa [World.setCell] using this, fun j hj h1 h2 => (heap_setCell_other b i o v j (by omega)).trans (x.block j hj h1 h2)⟩

theorem winC_set (m : Int) (k : Nat) (qv : Nat → Value) (j : Nat) (hj : j < 3) (v : Value) : (winC m k qv).setIfInBounds (9 + j) v = winC m k (upd qv j v) := by
  have : j = 0 ∨ j = 1 ∨ j = 2 := by omega
  rcases this with rfl | rfl | rfl <;> simp [winC, upd]
theorem winC_at (m : Int) (k : Nat) (qv : Nat → Value) (j : Nat) (hj : j < 3) : (winC m k qv)[9 + j]? = some (qv j) := by
  have : j = 0 ∨ j = 1 ∨ j = 2 := by omega
  rcases this with rfl | rfl | rfl <;> simp [winC]

theorem Win.put {w w2 : World} {g h : Nat} {m : Int} {k n r r' : Nat} {qv : Nat → Value} {ends ends' : List Value} {Q : Nat → List Nat} (x : Win w g h m k n r qv ends Q) (hg : w2.heap[g]? = w.heap[g]?) (hh : w2.heap[h]? = some (.cells ends'.toArray 3 (0, 0))) (hl : ends'.length = ends.length)
    (j : Nat) (hj : j < 3) (v : Value) (Qj : List Nat) (ho : ∀ i, i < 3 → i ≠ j → QOk h n r' ends' i (qv i) (Q i)) (hv : QOk h n r' ends' j v Qj) : Win (w2.setCell ⟨g, 9 + j, none⟩ v) g h m k n r' (upd qv j v) ends' (upd Q j Qj) := by
  refine ⟨x.ne, ?_, ?_, hl.trans x.len, fun i hi => ?_⟩
  · rw [← winC_set m k qv j hj v]
    exact heap_setCell_same w2 g (9 + j) v _ _ _ (hg.trans x.blk)
  · rw [heap_setCell_other w2 g _ v h (fun e => x.ne e.symm)]
    exact hh
  · unfold upd
    by_cases e : i = j
    · subst e
      simpa using hv
    · simpa [e] using ho i hi e

theorem Win.cellQ {w : World} {g h : Nat} {m : Int} {k n r : Nat} {qv : Nat → Value} {ends : List Value} {Q : Nat → List Nat} (x : Win w g h m k n r qv ends Q) (j : Nat) (hj : j < 3) : w.cell? ⟨g, 9 + j, none⟩ = some (qv j) := by
  rw [cell_of_row w g (9 + j) _ _ _ x.blk]
  exact winC_at m k qv j hj
theorem Win.froz {w : World} {g h : Nat} {m : Int} {k n r : Nat} {qv : Nat → Value} {ends : List Value} {Q : Nat → List Nat} (x : Win w g h m k n r qv ends Q) (j : Nat) : w.frozen? ⟨g, j, none⟩ = false := by
  simp [World.frozen?, x.blk]
theorem Win.frozH {w : World} {g h : Nat} {m : Int} {k n r : Nat} {qv : Nat → Value} {ends : List Value} {Q : Nat → List Nat} (x : Win w g h m k n r qv ends Q) (j : Nat) : w.frozen? ⟨h, j, none⟩ = false := by
  simp [World.frozen?, x.row]
theorem Win.cellH {w : World} {g h : Nat} {m : Int} {k n r : Nat} {qv : Nat → Value} {ends : List Value} {Q : Nat → List Nat} (x : Win w g h m k n r qv ends Q) (i : Nat) (v : Value) (hv : ends[i]? = some v) : w.cell? ⟨h, i, none⟩ = some v := by
  rw [cell_of_row w h i _ _ _ x.row]
  simpa using hv
theorem Win.kept {w w2 : World} {g h : Nat} {m : Int} {k n r : Nat} {qv : Nat → Value} {ends : List Value} {Q : Nat → List Nat} (x : Win w g h m k n r qv ends Q) (h1 : w2.heap[g]? = w.heap[g]?) (h2 : w2.heap[h]? = w.heap[h]?) : Win w2 g h m k n r qv ends Q :=
  ⟨x.ne, h1.trans x.blk, h2.trans x.row, x.len, x.q⟩
theorem Win.ext {w w2 : World} {g h : Nat} {m : Int} {k n r : Nat} {qv : Nat → Value} {ends : List Value} {Q : Nat → List Nat} (x : Win w g h m k n r qv ends Q) (hx : Ext w w2) : Win w2 g h m k n r qv ends Q :=
  x.kept (hx.block g (Array.getElem?_eq_some_iff.1 x.blk).1) (hx.block h (Array.getElem?_eq_some_iff.1 x.row).1)

theorem Win.congr {w : World} {g h : Nat} {m : Int} {k n r : Nat} {qv : Nat → Value} {ends : List Value} {Q Q' : Nat → List Nat} (x : Win w g h m k n r qv ends Q) (hq : ∀ j, j < 3 → Q' j = Q j) : Win w g h m k n r qv ends Q' :=
  ⟨x.ne, x.blk, x.row, x.len, fun j hj => by rw [hq j hj]; exact x.q j hj⟩

set_option maxRecDepth 20000 in
set_option maxHeartbeats 1600000 in
theorem clear_any (g h : Nat) (m : Int) (k n r : Nat) (Q : Nat → List Nat) (w : World) (hw : WinE w g h m k n r Q) :
    Calls Try.prog 61 #[.pointer (some ⟨g, 0, none⟩)] w fun e w' => e = .returned (.tuple #[]) ∧ WinE w' g h m k n r (fun _ => []) ∧ Mod g h w w' := by
  have HW := Lib.hid hw
  clear hw
  go_enter Try.func61, Try.ntmps61
  go_wp2_with fail
  go_loopw [2, 3] (fun _ i wr => ∃ j : Nat, j ≤ 3 ∧ i = .int .i64 j ∧ Hid (WinE wr g h m k n r (fun x => if x < j then [] else Q x)) ∧ Hid (Mod g h w wr)) (fun _ i _ => 3 - (intOf i).toNat)
  case atStart => exact ⟨0, by omega, rfl, Lib.hid (by simpa using HW.out), Lib.hid (Mod.refl _ _ _)⟩
  case round =>
    obtain ⟨j, hj, rfl, HI, HM⟩ := hrel
    by_cases hlt : j < 3
    · obtain ⟨qv, ends, HX⟩ := HI.out
      obtain ⟨off, cap, hv, h1, h2, h3, h4, h5⟩ := HX.q j hlt
      have z := HX.cellQ j hlt
      rw [hv] at z
      have zf := HX.froz (9 + j)
      have hlen : (if j < j then ([] : List Nat) else Q j).length = (Q j).length := by simp
      rw [hlen] at z h3
      obtain ⟨ql, hql⟩ : ∃ ql, ql = (Q j).length := ⟨_, rfl⟩
      rw [← hql] at z h3
      have HX' := Lib.hid HX
      have H5 : Hid (QOk h n r ends j (.slice (some ⟨h, off, none⟩) 0 cap) []) := ⟨off, cap, rfl, h1, h2, by simp; omega, h4, fun i e hi => by simp at hi⟩
      clear hv HX h5 hlen hql h1 h2
      go_wp2_with fail
      go_region
      go_wp2_with fail
      refine ⟨⟨j + 1, by omega, by rw [Int.natCast_succ], Lib.hid ?_, Lib.hid ((HM.out.set g (Or.inl rfl) _ _).trans (Mod.drewN _ _ _ 1))⟩, by simp [intOf]; omega⟩
      have hp := (HX'.out.put (w2 := wr) rfl HX'.out.row rfl j hlt _ [] (fun i hi _ => HX'.out.q i hi) H5.out).ext ((Ext.refl _).drewN 1)
      exact ⟨_, _, hp.congr fun i hi => by simp only [upd]; by_cases e1 : i = j; (rw [if_pos (by omega), if_pos e1]); by_cases e2 : i < j; (rw [if_pos (by omega), if_neg e1, if_pos e2]); (rw [if_neg (by omega), if_neg e1, if_neg e2])⟩
    · obtain rfl : j = 3 := by omega
      go_wp2_with fail
      refine bodyPost_end (results_none rfl _ _ _) rfl ?_
      obtain ⟨qv, ends, HX⟩ := HI.out
      exact ⟨rfl, ⟨qv, ends, HX.congr fun i hi => by rw [if_pos hi]⟩, HM.out⟩

/-- The plans from a place on. -/
structure Plans (w : World) (gp np lo : Nat) (F : Nat → Pl) : Prop where
  at_ : ∀ e, lo ≤ e → e < np → PlanAt w gp e (F e)
  bd : ∀ e, (F e).bits ≤ 1048576
  bs : ∀ e, (F e).seg ≤ 4096
theorem PlanAt.kept {w w2 : World} {gp e : Nat} {p : Pl} (x : PlanAt w gp e p) (h : w2.heap[gp]? = w.heap[gp]?) : PlanAt w2 gp e p :=
  ⟨(World.cell?_of_block (a := ⟨gp, _, none⟩) h).trans x.c0, (World.cell?_of_block (a := ⟨gp, _, none⟩) h).trans x.c1, (World.cell?_of_block (a := ⟨gp, _, none⟩) h).trans x.c2, (World.cell?_of_block (a := ⟨gp, _, none⟩) h).trans x.c3⟩
theorem PlanAt.lt {w : World} {gp e : Nat} {p : Pl} (x : PlanAt w gp e p) : gp < w.heap.size := World.block_lt_of_cell? w ⟨gp, _, none⟩ x.c0
theorem PlanAt.ext {w w2 : World} {gp e : Nat} {p : Pl} (x : PlanAt w gp e p) (h : Ext w w2) : PlanAt w2 gp e p := x.kept (h.block gp x.lt)
theorem Plans.ext {w w2 : World} {gp np lo : Nat} {F : Nat → Pl} (x : Plans w gp np lo F) (h : Ext w w2) : Plans w2 gp np lo F := ⟨fun e h1 h2 => (x.at_ e h1 h2).ext h, x.bd, x.bs⟩

theorem winC_1 (w : World) (g : Nat) (m : Int) (k : Nat) (qv : Nat → Value) (h : w.heap[g]? = some (.cells (winC m k qv) 98 (0, 0))) :
    w.cell? ⟨g, 0, none⟩ = some (.int .i64 m) ∧ w.cell? ⟨g, 1, none⟩ = some (.int .i64 (unitN m)) ∧ w.cell? ⟨g, 3, none⟩ = some (.int .i64 (fullI m)) ∧ w.cell? ⟨g, 7, none⟩ = some (.int .i64 (4 + cntB m k : Nat)) ∧ w.cell? ⟨g, 8, none⟩ = some (.int .i64 (2 ^ cntB m k - 1 : Nat)) := by
  refine ⟨?_, ?_, ?_, ?_, ?_⟩ <;> (rw [cell_of_row w g _ _ _ _ h]; simp [winC])

/-- 'append(q, x)' where there is room, in a region that draws: x has been laid in a block of its own. -/
theorem step_pushIn {P : Program} {ops : Array Oper} {o : Oper} {a : Act} {K : Act → World → Prop} {R : Exit → Act → World → Prop} {E : Prop} {W : World} (wr : World) (hgd : o.guard = none) (s x : Operand) (t : TypeId)
    (ho : o.op = .call { callee := .builtin .append, args := #[s, x], argTypes := #[t, t] }) (e : TypeId) (z : Value) (bytes : Nat) (hI : (P.info? e).map (fun i => (i.zero, i.size, i.bytes)) = some (some z, 1, bytes)) (ht : P.underlying t = some (.slice e))
    (b off sLen sCap : Nat) (hs : a.eval s = .slice (some ⟨b, off, none⟩) sLen sCap) (u : Value) (nb : Nat) (hx : a.eval x = .slice (some ⟨nb, 0, none⟩) 1 1) (hu : u.oneCell' = true) (hroom : sLen + 1 ≤ sCap) (hE2 : Ext wr W) (hnew : W.cell? ⟨nb, 0, none⟩ = some u)
    (old : Value) (hc : wr.cell? ⟨b, off + sLen, none⟩ = some old) (hf : wr.frozen? ⟨b, off + sLen, none⟩ = false)
    (hK : ∀ w3, Hid (∃ w1, Ext wr w1 ∧ w3 = w1.setCell ⟨b, off + sLen, none⟩ u) → K (a.put o.dst (.slice (some ⟨b, off, none⟩) (sLen + 1) sCap)) w3) :
    if Region.wanted o (yielded ops a.tmps) = true then Oper.wp P o a W K R else E := by
  obtain ⟨i, hi, _, h4, _⟩ := info_parts hI
  refine step_append_room hgd s x t ho e i 1 ht hi h4 b off sLen sCap hs ⟨nb, 0, none⟩ 1 1 [u] hx rfl ?_ ?_ hroom ?_ ?_
  · intro j v hj
    match j, hj with
    | 0, hj =>
      simp at hj
      subst hj
      exact hnew
    | j + 1, hj => simp at hj
  · intro v hv
    simp at hv
    subst hv
    exact hu
  · intro j hj
    simp at hj
    subst hj
    rw [Nat.add_zero, Nat.mul_one]
    refine ⟨by rw [hE2.cell hc]; rfl, ?_⟩
    have hb := hE2.block b (World.block_lt_of_cell? wr ⟨b, _, none⟩ hc)
    unfold World.frozen? at *
    simp only [hb] at *
    exact hf
  · rw [Nat.mul_one]
    exact hK _ ⟨_, hE2, rfl⟩

theorem Win.after {w w3 : World} {g h : Nat} {m : Int} {k n r : Nat} {qv : Nat → Value} {ends : List Value} {Q : Nat → List Nat} (x : Win w g h m k n r qv ends Q) {o : Nat} {u : Value} (h3 : ∃ w1, Ext w w1 ∧ w3 = w1.setCell ⟨h, o, none⟩ u) (j : Nat) (hj : j < 3) :
    w3.cell? ⟨g, 9 + j, none⟩ = some (qv j) ∧ w3.frozen? ⟨g, 9 + j, none⟩ = false := by
  obtain ⟨w1, h1, rfl⟩ := h3
  have hg : (w1.setCell ⟨h, o, none⟩ u).heap[g]? = some (.cells (winC m k qv) 98 (0, 0)) := (heap_setCell_other w1 h o u g x.ne).trans (x.ext h1).blk
  refine ⟨?_, by simp [World.frozen?, hg]⟩
  rw [cell_of_row _ g (9 + j) _ _ _ hg]
  exact winC_at m k qv j hj

theorem Win.pushed {w w3 w4 : World} {g h : Nat} {m : Int} {k n r : Nat} {qv : Nat → Value} {ends : List Value} {Q : Nat → List Nat} (x : Win w g h m k n (r + 1) qv ends Q) {off i cap en : Nat} (j : Nat) (hj : j < 3)
    (hi : i ≤ (Q j).length) (h1 : j * n ≤ off) (h2 : off + cap ≤ (j + 1) * n) (h3 : (Q j).length + (r + 1) ≤ cap) (h4 : cap ≤ n) (h5 : ∀ i e, (Q j)[i]? = some e → ends[off + i]? = some (.int .i64 (e : Nat)))
    (h0 : ∃ w1, Ext w w1 ∧ w3 = w1.setCell ⟨h, off + i, none⟩ (.int .i64 en)) (he : Ext w3 w4) :
    WinE (w4.setCell ⟨g, 9 + j, none⟩ (.slice (some ⟨h, off, none⟩) (i + 1) cap)) g h m k n r (upd Q j ((Q j).take i ++ [en])) := by
  obtain ⟨w1, hx1, rfl⟩ := h0
  have hlt1 : h < w1.heap.size := (Array.getElem?_eq_some_iff.1 (x.ext hx1).row).1
  have hlt2 : g < w1.heap.size := (Array.getElem?_eq_some_iff.1 (x.ext hx1).blk).1
  have hsz : (w1.setCell ⟨h, off + i, none⟩ (.int .i64 en)).heap.size = w1.heap.size := by simp [World.setCell]
  have hrow : w4.heap[h]? = some (.cells (ends.set (off + i) (.int .i64 en)).toArray 3 (0, 0)) := by
    rw [he.block h (by rw [hsz]; exact hlt1), heap_setCell_same _ h (off + i) _ _ _ _ (x.ext hx1).row]
    simp
  have hblk : w4.heap[g]? = w.heap[g]? := by
    rw [he.block g (by rw [hsz]; exact hlt2), heap_setCell_other _ h _ _ g x.ne, (x.ext hx1).blk, x.blk]
  have hlen := x.len
  have hj3 : (j + 1) * n ≤ 3 * n := Nat.mul_le_mul_right n (by omega)
  refine ⟨_, _, x.put hblk hrow (by simp) j hj _ _ ?_ ?_⟩
  · intro i' hi' hne
    obtain ⟨off', cap', e1, e2, e3, e4, e5, e6⟩ := (x.q i' hi').less
    refine ⟨off', cap', e1, e2, e3, e4, e5, fun y e hy => ?_⟩
    have hyl := (List.getElem?_eq_some_iff.1 hy).1
    have hne2 : off + i ≠ off' + y := by
      rcases Nat.lt_or_ge i' j with hlt | hlt
      · have := Nat.mul_le_mul_right n (show i' + 1 ≤ j by omega)
        omega
      · have := Nat.mul_le_mul_right n (show j + 1 ≤ i' by omega)
        omega
    rw [List.getElem?_set_ne hne2]
    exact e6 y e hy
  · refine ⟨off, cap, by simp; omega, h1, h2, by simp; omega, h4, fun y e hy => ?_⟩
    by_cases hyi : y < i
    · rw [List.getElem?_append_left (by simp; omega), List.getElem?_take, if_pos hyi] at hy
      rw [List.getElem?_set_ne (by omega)]
      exact h5 y e hy
    · have hyl := (List.getElem?_eq_some_iff.1 hy).1
      simp at hyl
      obtain rfl : y = i := by omega
      rw [List.getElem?_append_right (by simp; omega)] at hy
      rw [show y - ((Q j).take y).length = 0 by simp; omega] at hy
      simp at hy
      subst hy
      rw [List.getElem?_set_self (by omega)]

/-- What push leaves. -/
def PushPost (w : World) (g h : Nat) (m : Int) (k n r : Nat) (Q : Nat → List Nat) (F : Nat → Pl) (en j : Nat) (e : Ending) (w' : World) : Prop :=
  e = .returned (.tuple #[]) ∧ Mod g h w w' ∧ ∃ i, i ≤ (Q j).length ∧ (∀ x a, (Q j)[x]? = some a → i ≤ x → gtW m F a en) ∧ (∀ a, 0 < i → (Q j)[i - 1]? = some a → ¬ gtW m F a en) ∧
    WinE w' g h m k n r (upd Q j ((Q j).take i ++ [en]))

set_option maxRecDepth 20000 in
set_option maxHeartbeats 1600000 in
theorem push_any (g h gp lo : Nat) (m : Int) (k n r en j : Nat) (Q : Nat → List Nat) (F : Nat → Pl) (w : World) (hj : en % unitN m = j) (hn : n ≤ 4096) (hen : en < n + 1) (hlo : lo ≤ en) (hw : WinE w g h m k n (r + 1) Q) (hp : Plans w gp (n + 1) lo F) (hQ : ∀ e ∈ Q j, lo ≤ e ∧ e < n + 1) :
    Calls Try.prog 62 #[.pointer (some ⟨g, 0, none⟩), .slice (some ⟨gp, 0, none⟩) (n + 1) (n + 1), .int .i64 en] w (PushPost w g h m k n r Q F en j) := by
  obtain ⟨qv, ends, HX⟩ := hw
  have hun : 1 ≤ unitN m ∧ unitN m ≤ 3 := by unfold unitN; split <;> (try split) <;> omega
  have hj3 : j < 3 := by rw [← hj]; have := Nat.mod_lt en (y := unitN m) (by omega); omega
  obtain ⟨_, z1, z3, _, _⟩ := winC_1 w g m k qv HX.blk
  obtain ⟨u, hu⟩ : ∃ u, u = unitN m := ⟨_, rfl⟩
  rw [← hu] at hun hj
  have q1 : (en : Int).tmod (u : Int) = (j : Int) := by rw [← hj, Int.tmod_eq_emod_of_nonneg (by omega)]; rfl
  have q2 : (en : Int) % (u : Int) = (j : Int) := by rw [← hj]; rfl
  have z1' := z1
  rw [← hu] at z1'
  clear hj hu
  obtain ⟨off, cap, hv, h1, h2, h3, h4, h5⟩ := HX.q j hj3
  have zq := HX.cellQ j hj3
  rw [hv] at zq
  obtain ⟨L, hL⟩ : ∃ L, L = Q j := ⟨_, rfl⟩
  obtain ⟨ln, hln⟩ : ∃ ln, ln = L.length := ⟨_, rfl⟩
  rw [← hL] at zq h3 h5 hQ
  rw [← hln] at zq h3
  have HX' := Lib.hid HX
  have H5 := Lib.hid h5
  have HLN := Lib.hid hln
  have HL := Lib.hid hL
  have HV := Lib.hid hv
  have HP := Lib.hid hp
  have HQ := Lib.hid hQ
  have Z13 := Lib.hid (And.intro z1 z3)
  clear HX h5 hln hL hv hp hQ z1 z3
  go_enter Try.func62, Try.ntmps62
  go_wp2_with fail
  go_loopw [7] (fun q wr => ∃ i : Nat, i ≤ ln ∧ q = .slice (some ⟨h, off, none⟩) i cap ∧ Hid (∀ x a, L[x]? = some a → i ≤ x → gtW m F a en) ∧ Hid (Ext w wr)) (fun q _ => slLen q)
  case atStart => exact ⟨ln, Nat.le_refl _, rfl, Lib.hid (fun x a hx hi => by have := (List.getElem?_eq_some_iff.1 hx).1; have := HLN.out; omega), Lib.hid (Ext.refl _)⟩
  case round =>
    obtain ⟨i, hi, rfl, HG, HE⟩ := hrel
    have HXr := Lib.hid (HX'.out.ext HE.out)
    have hji : (j : Int) < 3 := by omega
    rcases Nat.eq_zero_or_pos i with hi0 | hi0
    · have hz : i ≤ 0 := by omega
      have hz2 : decide (0 < i) = false := by simp; omega
      have HI0 := Lib.hid hi0
      clear hi0
      go_wp2_with fail
      obtain ⟨old, hold⟩ : ∃ old, ends[off + (i)]? = some old := by
        have h6 := HX'.out.len
        have h7 : (j + 1) * n ≤ 3 * n := Nat.mul_le_mul_right n (by omega)
        exact ⟨_, List.getElem?_eq_getElem (by omega)⟩
      have hcc := (HXr.out).cellH (off + (i)) old hold
      have hff : (wr).frozen? ⟨h, off + (i), none⟩ = false := (HXr.out).frozH _
      have HCC := Lib.hid hcc
      have HFF := Lib.hid hff
      clear hcc hff hold
      go_region_law (refine step_pushIn wr rfl (.tmp 43) (.tmp 45) 63 rfl 3 (.int .i64 0) 8 Try.infoInt Try.underlying63 h off (i) cap (by simp [Act.eval]) (.int .i64 en) (wr).heap.size (by simp [Act.eval]) rfl (by omega) (by first | exact Ext.alloc _ _ | exact (Ext.alloc _ _).trans (Ext.drew _) | exact (Ext.drew _).trans (Ext.alloc _ _)) (by first | (simp; done) | exact (cell_of_row _ wr.heap.size 0 _ _ (0, 0) (heap_alloc_new (wr.drewN _) _)).trans rfl) old HCC.out HFF.out ?_; intro w3 H3; (obtain ⟨zc, zf⟩ := (HXr.out).after H3.out j hj3))
      go_wp2_with fail
      refine bodyPost_end (results_none rfl _ _ _) rfl ?_
      have hmod : Mod g h w (w3.setCell ⟨g, 9 + j, none⟩ (.slice (some ⟨h, off, none⟩) (i + 1) cap)) := by
        obtain ⟨w1, hx1, rfl⟩ := H3.out
        exact ((Mod.ofExt ((HE.out).trans hx1)).set h (Or.inr rfl) _ _).set g (Or.inl rfl) _ _
      have hpd := (HXr.out).pushed (off := off) (i := i) (cap := cap) (en := en) j hj3 (by rw [← HL.out, ← HLN.out]; omega) h1 h2 (by rw [← HL.out, ← HLN.out]; exact h3) h4 (by rw [← HL.out]; exact H5.out) H3.out (Ext.refl _)
      exact ⟨rfl, hmod, i, by rw [← HL.out, ← HLN.out]; exact hi, by rw [← HL.out]; exact HG.out, fun a h0 => absurd h0 (by omega), hpd⟩
    · obtain ⟨i, rfl⟩ : ∃ i', i = i' + 1 := ⟨i - 1, by omega⟩
      clear hi0
      have zi := HXr.out.cellH (off + i) (.int .i64 (L[i]'(by have := HLN.out; omega) : Nat)) (H5.out i _ (List.getElem?_eq_getElem _))
      obtain ⟨le, hle⟩ : ∃ le, le = L[i]'(by have := HLN.out; omega) := ⟨_, rfl⟩
      have HLE : Hid (L[i]? = some le) := by show _ = _; rw [hle]; exact List.getElem?_eq_getElem _
      rw [← hle] at zi
      clear hle
      have hq := HQ.out le (List.mem_of_getElem? HLE.out)
      have HPr := HP.out.ext HE.out
      obtain ⟨y1, y3⟩ := Z13.out
      have y1' := HE.out.cell y1
      have y3' := HE.out.cell y3
      clear y1 y3
      go_wp2_with fail
      refine (worse_any g gp (n + 1) m F le en _ (by omega) (by omega) (by omega) (HPr.at_ le (by omega) (by omega)) (HPr.at_ en (by omega) (by omega)) (HPr.bd _) (HPr.bd _) y1' y3').mono ?_
      rintro e w1 ⟨rfl, x1, rfl⟩
      clear y1' y3'
      by_cases hgt : gtW m F le en
      · rw [decide_eq_true hgt]
        have HG2 : Hid (∀ x a, L[x]? = some a → i ≤ x → gtW m F a en) := by
          intro x a hx hix
          by_cases e : x = i
          · subst e
            rw [HLE.out] at hx
            cases hx
            exact hgt
          · exact HG.out x a hx (by omega)
        clear hgt
        go_wp2_with fail
        exact ⟨⟨i, by omega, rfl, HG2, Lib.hid (HE.out.drewN _)⟩, by simp [slLen]⟩
      · rw [decide_eq_false hgt]
        have HGT := Lib.hid hgt
        clear hgt HPr
        go_wp2_with fail
        obtain ⟨old, hold⟩ : ∃ old, ends[off + (i + 1)]? = some old := by
          have h6 := HX'.out.len
          have h7 : (j + 1) * n ≤ 3 * n := Nat.mul_le_mul_right n (by omega)
          exact ⟨_, List.getElem?_eq_getElem (by omega)⟩
        have hcc := ((HXr.out.ext ((Ext.refl _).drewN x1))).cellH (off + (i + 1)) old hold
        have hff : ((wr.drewN x1)).frozen? ⟨h, off + (i + 1), none⟩ = false := ((HXr.out.ext ((Ext.refl _).drewN x1))).frozH _
        have HCC := Lib.hid hcc
        have HFF := Lib.hid hff
        clear hcc hff hold
        go_region_law (refine step_pushIn (wr.drewN x1) rfl (.tmp 43) (.tmp 45) 63 rfl 3 (.int .i64 0) 8 Try.infoInt Try.underlying63 h off (i + 1) cap (by simp [Act.eval]) (.int .i64 en) ((wr.drewN x1)).heap.size (by simp [Act.eval]) rfl (by omega) (by first | exact Ext.alloc _ _ | exact (Ext.alloc _ _).trans (Ext.drew _) | exact (Ext.drew _).trans (Ext.alloc _ _)) (by first | (simp; done) | exact (cell_of_row _ wr.heap.size 0 _ _ (0, 0) (heap_alloc_new (wr.drewN _) _)).trans rfl) old HCC.out HFF.out ?_; intro w3 H3; (obtain ⟨zc, zf⟩ := ((HXr.out.ext ((Ext.refl _).drewN x1))).after H3.out j hj3))
        go_wp2_with fail
        refine bodyPost_end (results_none rfl _ _ _) rfl ?_
        have hmod : Mod g h w (w3.setCell ⟨g, 9 + j, none⟩ (.slice (some ⟨h, off, none⟩) (i + 1 + 1) cap)) := by
          obtain ⟨w1, hx1, rfl⟩ := H3.out
          exact ((Mod.ofExt (((HE.out.drewN x1)).trans hx1)).set h (Or.inr rfl) _ _).set g (Or.inl rfl) _ _
        have hpd := ((HXr.out.ext ((Ext.refl _).drewN x1))).pushed (off := off) (i := i + 1) (cap := cap) (en := en) j hj3 (by rw [← HL.out, ← HLN.out]; omega) h1 h2 (by rw [← HL.out, ← HLN.out]; exact h3) h4 (by rw [← HL.out]; exact H5.out) H3.out (Ext.refl _)
        exact ⟨rfl, hmod, i + 1, by rw [← HL.out, ← HLN.out]; exact hi, by rw [← HL.out]; exact HG.out, fun a _ ha => by rw [← HL.out, Nat.add_sub_cancel, HLE.out] at ha; cases ha; exact HGT.out, hpd⟩

end Go.Proofs.Ythebfpolijajgaa
