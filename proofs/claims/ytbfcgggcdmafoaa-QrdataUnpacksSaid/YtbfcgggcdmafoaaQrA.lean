/-
  Contracts of the buffer's methods number, all, zeros, used and of the writer's left.
  Conditions: the receiver's block is of the caller's own; few bits.
-/
import Derived.Test.YtbfcgggcdmafoaaModeI
import Derived.Test.YtbfcgggcdmafoaaZeros
namespace Go.Proofs.Ytbfcgggcdmafoaa
open Go.RowKit Go.Bs Go.Mode

/-- The block g begins with a slice of bits that lies behind g. -/
def Buf (g : Nat) (tt : TypeId) (w : World) (s : Value) (n : Nat) (xs : List Bool) (rest : List Value) : Prop :=
  w.heap[g]? = some (.cells (s :: rest).toArray tt (0, 0)) ∧ w.ownsRow (g + 1) 4 1 s n (bools xs)
def BufPost (g : Nat) (tt : TypeId) (w : World) (n : Nat) (xs : List Bool) (rest : List Value) (e : Ending) (w' : World) : Prop :=
  ∃ s', e = .returned (.tuple #[]) ∧ Buf g tt w' s' n xs rest ∧ Below g w w'

theorem heap_setS (w : World) (g : Nat) (s v : Value) (rest : List Value) (tt : TypeId) (h : w.heap[g]? = some (.cells (s :: rest).toArray tt (0, 0))) :
    (w.setCell ⟨g, 0, none⟩ v).heap[g]? = some (.cells (v :: rest).toArray tt (0, 0)) := by
  simp [World.setCell, Array.getElem?_modify, h]

theorem Buf.lt {g : Nat} {tt : TypeId} {w : World} {s : Value} {n : Nat} {xs : List Bool} {rest : List Value} (h : Buf g tt w s n xs rest) : g < w.heap.size := (Array.getElem?_eq_some_iff.1 h.1).1
theorem Buf.cell0 {g : Nat} {tt : TypeId} {w : World} {s : Value} {n : Nat} {xs : List Bool} {rest : List Value} (h : Buf g tt w s n xs rest) : w.cell? ⟨g, 0, none⟩ = some s := by
  rw [cell_of_row w g 0 _ tt (0, 0) h.1]; simp
theorem Buf.cell1 {g : Nat} {tt : TypeId} {w : World} {s u : Value} {n : Nat} {xs : List Bool} (h : Buf g tt w s n xs [u]) : w.cell? ⟨g, 1, none⟩ = some u := by
  rw [cell_of_row w g 1 _ tt (0, 0) h.1]; simp
theorem frozen_of_row (w : World) (g i : Nat) (cs : Array Value) (tt : TypeId) (h : w.heap[g]? = some (.cells cs tt (0, 0))) : w.frozen? ⟨g, i, none⟩ = false := by
  simp [World.frozen?, h]

/-- The slice behind the receiver has grown, and is stored. -/
theorem Buf.stored {g : Nat} {tt : TypeId} {w w2 : World} {s s2 : Value} {n n2 : Nat} {xs ys : List Bool} {rest : List Value} (h : Buf g tt w s n xs rest) (ho : w2.ownsRow (g + 1) 4 1 s2 n2 (bools ys)) (hk : Keep w s w2 s2) :
    Buf g tt (w2.setCell ⟨g, 0, none⟩ s2) s2 n2 ys rest ∧ Below g w (w2.setCell ⟨g, 0, none⟩ s2) := by
  have hb : w2.heap[g]? = w.heap[g]? := hk.block g h.lt (own_below h.2 (Nat.lt_succ_self g))
  refine ⟨⟨heap_setS w2 g s s2 rest tt (hb.trans h.1), ownsRow_setCell_below ho (Nat.lt_succ_self g) _⟩, ?_⟩
  exact (hk.below (Nat.le_of_lt h.lt) (fun k hk => by have := (h.2.lt k hk).1; omega)).setCell (Nat.le_refl _) _

set_option maxRecDepth 20000 in
set_option maxHeartbeats 800000 in
theorem number_any' (g : Nat) (tt : TypeId) (s : Value) (n : Nat) (xs : List Bool) (rest : List Value) (v : Int) (k : Nat) (w : World) (hk : k ≤ 62) (hn : n ≤ 4194304) (hb : Buf g tt w s n xs rest) :
    Calls Try.prog 23 #[.pointer (some ⟨g, 0, none⟩), .int .i64 v, .int .i64 k] w (BufPost g tt w (n + k) (xs ++ lowBits v k) rest) := by
  have HA : Hid (appRes [] v k = (lowBits v k, 0)) := by show _ = _; rw [appRes_3 (by omega) (by simp; omega)]; simp
  have HB := Lib.hid hb
  have hlt := hb.lt
  go_enter Try.func23, Try.ntmps23
  go_wp2_with fail
  refine (append_any none 0 0 [] v k _ rfl (by decide) (Row.nil _ _)).mono ?_
  rw [HA.out]
  intro e w1 hret
  obtain ⟨b1, c1, rfl, hr1, hc1, hm1, hn1, hx1⟩ := hret.bools
  clear hret hb
  rw [length_lowBits] at hc1 ⊢
  have hown1 := own_extN HB.out.2 hx1
  have hB1 : g + 1 ≤ w1.heap.size := Nat.le_trans hlt hx1.size
  have z0 := hx1.cell HB.out.cell0
  go_wp2_with (at_builtin; refine wpList_app rfl _ _ 24 rfl (g + 1) 4 (.bool false) 1 1 Try.infoBool rfl (by decide) Try.underlying24 _ rfl n _ hown1 _ k c1 rfl (bools (lowBits v k)) hr1 (by rw [length_bools, length_lowBits]; omega) hn1 (bools_oneCell _) (by omega) (by omega) hB1 ?_; intro s2 w2 hown2 hk2; (have hst := HB.out.stored (by rw [← bools_append] at hown2; exact hown2) ((Keep.ofExt hx1 s).trans hk2)); (obtain ⟨so, sc, rfl, _⟩ := own_row hown2); (have z2 := hk2.cell z0 (own_below hown1 (Nat.lt_succ_self g))); (have z3 := frozen_of_row w2 g 0 _ tt ((hk2.block g (by omega) (own_below hown1 (Nat.lt_succ_self g))).trans ((hx1.block g hlt).trans HB.out.1))); (have HST := Lib.hid hst); clear hst hk2 hown2)
  (try simp only [Exit.inBlock, Exit.then])
  refine bodyPost_end (results_none rfl _ _ _) rfl ?_
  exact ⟨_, rfl, HST.out.1, HST.out.2⟩

set_option maxRecDepth 20000 in
set_option maxHeartbeats 800000 in
theorem all_any (g : Nat) (tt : TypeId) (s : Value) (n : Nat) (xs : List Bool) (rest : List Value) (ao : Option Addr) (len cap : Nat) (ys : List Bool) (w : World) (hy : ys.length = len) (hn : n ≤ 4194304) (hl : len ≤ 4194304) (hr : Row w ao (bools ys)) (hno : ao = none → cap = 0) (hb : Buf g tt w s n xs rest) :
    Calls Try.prog 25 #[.pointer (some ⟨g, 0, none⟩), .slice ao len cap] w (BufPost g tt w (n + len) (xs ++ ys) rest) := by
  have HB := Lib.hid hb
  have hlt := hb.lt
  have hown1 := hb.2
  have z0 := hb.cell0
  have HY := Lib.hid hy
  clear hb hy
  go_enter Try.func25, Try.ntmps25
  go_wp2_with (at_builtin; refine wpList_app rfl _ _ 24 rfl (g + 1) 4 (.bool false) 1 1 Try.infoBool rfl (by decide) Try.underlying24 _ rfl n _ hown1 _ len cap rfl (bools ys) hr (by rw [length_bools, HY.out]; omega) hno (bools_oneCell _) (by omega) (by omega) hlt ?_; intro s2 w2 hown2 hk2; (have hst := HB.out.stored (by rw [← bools_append] at hown2; exact hown2) hk2); (obtain ⟨so, sc, rfl, _⟩ := own_row hown2); (have z2 := hk2.cell z0 (own_below hown1 (Nat.lt_succ_self g))); (have z3 := frozen_of_row w2 g 0 _ tt ((hk2.block g (by omega) (own_below hown1 (Nat.lt_succ_self g))).trans HB.out.1)); (have HST := Lib.hid hst); clear hst hk2 hown2)
  (try simp only [Exit.inBlock, Exit.then])
  refine bodyPost_end (results_none rfl _ _ _) rfl ?_
  exact ⟨_, rfl, HST.out.1, HST.out.2⟩

theorem bools_replicate (m : Nat) : bools (List.replicate m false) = List.replicate m (.bool false) := by simp [bools]

set_option maxRecDepth 20000 in
set_option maxHeartbeats 800000 in
theorem zeros_any (g : Nat) (tt : TypeId) (s : Value) (n : Nat) (xs : List Bool) (rest : List Value) (m : Nat) (w : World) (hn : n ≤ 4194304) (hl : m ≤ 4194304) (hb : Buf g tt w s n xs rest) :
    Calls Try.prog 41 #[.pointer (some ⟨g, 0, none⟩), .int .i64 m] w (BufPost g tt w (n + m) (xs ++ List.replicate m false) rest) := by
  have HB := Lib.hid hb
  have hlt := hb.lt
  have hown1 := hb.2
  have z0 := hb.cell0
  clear hb
  go_enter Try.func41, Try.ntmps41
  go_wp2_with (at_builtin; refine wpList_zeros rfl _ _ 24 3 rfl (g + 1) 4 (.bool false) 1 Try.infoBool rfl rfl Try.underlying24 Try.underlying3 _ rfl n _ hown1 m rfl (by omega) (by omega) hlt ?_; intro s2 w2 hown2 hk2; (have hst := HB.out.stored (by rw [← bools_replicate, ← bools_append] at hown2; exact hown2) hk2); (obtain ⟨so, sc, rfl, _⟩ := own_row hown2); (have z2 := hk2.cell z0 (own_below hown1 (Nat.lt_succ_self g))); (have z3 := frozen_of_row w2 g 0 _ tt ((hk2.block g (by omega) (own_below hown1 (Nat.lt_succ_self g))).trans HB.out.1)); (have HST := Lib.hid hst); clear hst hk2 hown2)
  (try simp only [Exit.inBlock, Exit.then])
  refine bodyPost_end (results_none rfl _ _ _) rfl ?_
  exact ⟨_, rfl, HST.out.1, HST.out.2⟩

set_option maxRecDepth 20000 in
set_option maxHeartbeats 800000 in
theorem used_any (g : Nat) (tt : TypeId) (s : Value) (n : Nat) (xs : List Bool) (rest : List Value) (w : World) (hb : Buf g tt w s n xs rest) :
    Calls Try.prog 67 #[.pointer (some ⟨g, 0, none⟩)] w fun e w' => e = .returned (.int .i64 n) ∧ w = w' := by
  obtain ⟨so, sc, rfl, _⟩ := own_row hb.2
  have z0 := hb.cell0
  clear hb
  go_enter Try.func67, Try.ntmps67
  go_wp2_with fail
  go_ret
  exact ⟨rfl, rfl⟩

theorem Buf.drewN {g : Nat} {tt : TypeId} {w : World} {s : Value} {n : Nat} {xs : List Bool} {rest : List Value} (h : Buf g tt w s n xs rest) (k : Nat) : Buf g tt (w.drewN k) s n xs rest :=
  ⟨(Below.block ((Ext.refl w).drewN k) g h.lt).trans h.1, own_extN h.2 ((Ext.refl w).drewN k)⟩

set_option maxRecDepth 20000 in
set_option maxHeartbeats 800000 in
theorem wleft_any (g : Nat) (tt : TypeId) (s : Value) (n : Nat) (xs : List Bool) (k : Nat) (w : World) (hn : n ≤ 8 * k) (hk : k ≤ 4096) (hb : Buf g tt w s n xs [.int .i64 k]) :
    Calls Try.prog 42 #[.pointer (some ⟨g, 0, none⟩)] w fun e w' => e = .returned (.int .i64 ((8 * k - n : Nat) : Int)) ∧ ∃ m, w' = w.drewN m := by
  have z1 := hb.cell1
  have z0 := hb.cell0
  have HB := Lib.hid hb
  clear hb
  go_enter Try.func42, Try.ntmps42
  go_wp2_with fail
  go_quiet ((go_at_call 67; exact quiet_same (used_any g tt s n xs _ _ (HB.out.drewN _))))
  go_wp2_with fail
  go_ret
  exact ⟨ret_int (by omega), _, rfl⟩

end Go.Proofs.Ytbfcgggcdmafoaa
