/-
  qrlayout's path: what it returns, and that it is an iterator over the data modules.
  Conditions: a layout of a version.
  The contract of qrlayout.Path.
  Condition: none.
-/
import Derived.Test.YtjkpdhcnklgfbaaIter
import Derived.Test.YtjkpdhcnklgfbaaRound
import Derived.RangeFuncOne
import Derived.Test.YtjkpdhcnklgfbaaNew
namespace Go.Bs
open Go Go.RowKit

theorem wpList_round {l n : Nat} {P : Program} {ops : Array Oper} {Q : Exit → Act → World → Prop} (hQ : ∀ a w, ¬ Q .outgrown a w) :
    ∀ (L : List Oper) (a : Act) (w : World), L.all (fun o => !isDefer o.op) = true → wpList P ops Q L a w → wpListIn (Fence.wide.inRound l) n P ops Q L a w
  | [], _, _, _, h => h
  | o :: L, a, w, hd, h => by
    rw [List.all_cons, Bool.and_eq_true] at hd
    have hd1 : isDefer o.op = false := by simpa using hd.1
    unfold wpList at h
    unfold wpListIn
    split
    · rename_i hw
      rw [if_pos hw] at h
      refine Oper.wpIn_mono (fun a w hk => wpList_round hQ L a w hd.2 hk) (oper_round hQ hd1 h)
    · rename_i hw
      rw [if_neg hw] at h
      exact ⟨fun _ _ => trivial, wpList_round hQ L _ w hd.2 h⟩
/-- A region in the text's order, within a round. -/
theorem wpIn_round_list {l n id : Nat} {P : Program} {L : List Oper} {Q : Exit → Act → World → Prop} {a : Act} {w : World} (hd : L.all (fun o => !isDefer o.op) = true) (hQ : ∀ a w, ¬ Q .outgrown a w)
    (h : wpList P L.toArray Q L a w) : (Code.region id L.toArray false).wpIn (Fence.wide.inRound l) n P Q a w :=
  wpIn_region_lit (wpList_round hQ L a w hd h)

/-- A turn of a block that holds no cells, or of none. -/
theorem turn_heap {W W' : World} {row : Option Nat} {g : Nat} {cs : Array Value} {t : TypeId} {fr : Nat × Nat} (h : W.heap[g]? = some (.cells cs t fr)) (hg : W.grownBy W' row) (hr : ∀ r, row = some r → ∃ o : Obj, W.heap[r]? = some o ∧ o.isCells = false) : W'.heap[g]? = some (.cells cs t fr) := by
  refine (hg.block g (Array.getElem?_eq_some_iff.1 h).1 (fun e => ?_)).trans h
  obtain ⟨o, ho, hc⟩ := hr g e.symm
  rw [h] at ho
  cases ho
  cases hc
theorem turn_own {W W' : World} {row : Option Nat} {B : Nat} {e : TypeId} {sz : Nat} {v : Value} {n : Nat} {xs : List Value} (h : W.ownsRow B e sz v n xs) (hg : W.grownBy W' row) (hr : ∀ r, row = some r → ∃ o : Obj, W.heap[r]? = some o ∧ o.isCells = false) : W'.ownsRow B e sz v n xs := by
  refine ⟨h.1, ?_⟩
  rcases h.2 with h0 | ⟨g, cap, cur, hv, hb, hgg, hrest⟩
  · exact Or.inl h0
  · exact Or.inr ⟨g, cap, cur, hv, hb, turn_heap hgg hg hr, hrest⟩
theorem turn_ext {w W W' : World} {row : Option Nat} {B : Nat} (h : Ext w W) (hg : W.grownBy W' row) (hr : ∀ r, row = some r → B ≤ r) (hB : w.heap.size ≤ B) : Ext w W' :=
  ⟨hg.os.trans h.os, hg.tape.trans h.tape, hg.output.trans h.output, Nat.le_trans h.size hg.size, fun k hk => (hg.block k (Nat.lt_of_lt_of_le hk h.size) (fun e => by have := hr k e.symm; omega)).trans (Below.block h k hk)⟩
end Go.Bs
namespace Go.Proofs.Ytjkpdhcnklgfbaa
open Go.RowKit Go.Bs Go.Qrv Go.Lay Go.Shelf

/-- From A to B the blocks from lo to hi are as they were. -/
def Mid (lo hi : Nat) (A B : World) : Prop := ∀ k, lo ≤ k → k < hi → B.heap[k]? = A.heap[k]?
theorem Mid.refl (lo hi : Nat) (A : World) : Mid lo hi A A := fun _ _ _ => rfl
theorem Mid.trans {lo hi : Nat} {A B C : World} (h : Mid lo hi A B) (k : Mid lo hi B C) : Mid lo hi A C := fun i h1 h2 => (k i h1 h2).trans (h i h1 h2)
theorem Mid.cell {lo hi : Nat} {A B : World} (h : Mid lo hi A B) {q : Addr} {v : Value} (hc : A.cell? q = some v) (h1 : lo ≤ q.block) (h2 : q.block < hi) : B.cell? q = some v :=
  (World.cell?_of_block (h q.block h1 h2)).trans hc
theorem Cap.mid {lo hi : Nat} {A B : World} (hm : Mid lo hi A B) {Bl Bc : Nat} {v s : Int} {ao : Option Addr} {m c : Nat} {bo : Option Addr} {Q cq : Nat} {C : List Int} (h : Cap A Bl Bc v s ao m c bo Q cq C)
    (h1 : lo ≤ Bl ∧ Bl < hi) (h2 : lo ≤ Bc ∧ Bc < hi) (h3 : ∀ a, bo = some a → lo ≤ a.block ∧ a.block < hi) : Cap B Bl Bc v s ao m c bo Q cq C := by
  refine ⟨hm.cell h.l0 h1.1 h1.2, hm.cell h.l1 h1.1 h1.2, hm.cell h.l2 h1.1 h1.2, hm.cell h.c0 h2.1 h2.2, fun i u hi => ?_⟩
  obtain ⟨a, ha, hc⟩ := h.row i u hi
  have hb : (a.add i).block = a.block := by unfold Addr.add; split <;> rfl
  obtain ⟨q1, q2⟩ := h3 a ha
  exact ⟨a, ha, hm.cell hc (by rw [hb]; exact q1) (by rw [hb]; exact q2)⟩

/-- What path returns: an iterator that has caught the layout and its cells. -/
def RetIter (n : Nat) (ao : Option Addr) (m c : Nat) (w : World) (e : Ending) (w' : World) : Prop :=
  ∃ Bl Bc bo cq, e = .returned (.func (.func 81) #[] #[.pointer (some ⟨Bl, 0, none⟩), .pointer (some ⟨Bc, 0, none⟩)]) ∧ Cap w' Bl Bc n (sd n) ao m c bo (sd n * sd n) cq (cellsN n) ∧
    (w.heap.size ≤ Bl ∧ Bl < w'.heap.size) ∧ (w.heap.size ≤ Bc ∧ Bc < w'.heap.size) ∧ (∀ a, bo = some a → w.heap.size ≤ a.block ∧ a.block < w'.heap.size) ∧ Ext w w'

set_option maxRecDepth 20000 in
set_option maxHeartbeats 1000000 in
theorem path_any (n : Nat) (h1 : 1 ≤ n) (h2 : n ≤ 40) (ao : Option Addr) (c : Nat) (w : World) (hr : Row w ao (ints (al n))) :
    Calls Try.prog 58 #[.agg (layV n (sd n) ao (al n).length c)] w (RetIter n ao (al n).length c w) := by
  obtain ⟨a1, a2, a3⟩ := al_facts n h1 h2
  have hsb : 21 ≤ sd n ∧ sd n ≤ 177 := by unfold sd; omega
  have HCE := fun (V : World) (h : Row V ao (ints (al n))) => Lib.hid (cells_own n (sd n) (al n) ao c V h (by omega) (fun a ha => by have := a2 a ha; omega) (by omega) (by omega))
  have HCN : Hid (cellsL n (sd n) (al n) (sd n * sd n) = cellsN n) := rfl
  rw [HCN.out] at HCE
  have HR := Lib.hid hr
  have HLEN := Lib.hid (cellsN_len n)
  have hQ : 0 < sd n * sd n := Nat.mul_pos (by omega) (by omega)
  unfold RetIter
  clear a1 a2 a3 hr HCN hsb
  generalize (al n).length = m at HCE ⊢
  generalize sd n * sd n = Q at HLEN hQ ⊢
  generalize sd n = k at HCE ⊢
  generalize cellsN n = C at HCE HLEN ⊢
  unfold layV at HCE ⊢
  go_enter Try.func58, Try.ntmps58
  go_wp2_with fail
  refine (HCE _ (HR.out.ext (Ext.alloc _ _))).out.mono ?_
  rintro e w2 ⟨s, rfl, hown, hx2⟩
  rw [HLEN.out] at hown
  obtain ⟨g, cq, rfl, hgb, hgl, hgc, hgm⟩ := own_ptr hown hQ
  obtain ⟨_, _, he, -, -, -, hrow⟩ := own_row hown
  simp only [Value.slice.injEq] at he
  rw [← he.1] at hrow
  have HROW := Lib.hid hrow
  have HX2 := Lib.hid hx2
  have HB := Lib.hid hgb
  have HGL := Lib.hid hgl
  clear hrow hx2 he hown hgb hgl
  go_wp2_with fail
  go_ret
  obtain ⟨z0, z1, z2⟩ := box3 (HX2.out.trans (Ext.alloc w2 (.cells #[.slice (some ⟨g, 0, none⟩) Q cq] 48)))
  have hs1 : w.heap.size + 1 ≤ w2.heap.size := by have := HX2.out.size; rwa [World.size_alloc] at this
  have hgb := HB.out
  rw [World.size_alloc] at hgb
  refine ⟨w.heap.size, w2.heap.size, some ⟨g, 0, none⟩, cq, rfl, ⟨z0, z1, z2, ?_, HROW.out.ext (Ext.alloc _ _)⟩, ⟨Nat.le_refl _, ?_⟩, ⟨?_, ?_⟩, ?_, (Ext.alloc _ _).trans (HX2.out.trans (Ext.alloc _ _))⟩
  · rw [cell_of_row _ _ _ _ _ _ (heap_alloc_new w2 _)]; rfl
  · rw [World.size_alloc]; omega
  · omega
  · rw [World.size_alloc]; omega
  · intro a ha
    cases ha
    have := HGL.out
    rw [World.size_alloc]
    exact ⟨by show w.heap.size ≤ g; omega, by show g < w2.heap.size + 1; omega⟩

end Go.Proofs.Ytjkpdhcnklgfbaa

namespace Go.Proofs.Ytjkpdhcnklgfbaa
open Go.RowKit Go.Bs Go.Qrv Go.Lay Go.Shelf

attribute [local go_sem] Oper.semAt_some

/-- Modules of the matrix. -/
abbrev Mod (k : Nat) := { p : Nat × Nat // p.1 < k ∧ p.2 < k }
def enc {k : Nat} (x : Mod k) : Array Value := #[.agg #[.int .i64 ((x.1.1 : Nat) : Int), .int .i64 ((x.1.2 : Nat) : Int)]]
def vals {k : Nat} (l : List (Mod k)) : List (Nat × Nat) := l.map Subtype.val

theorem visit_in (n k i j : Nat) (hk : 2 * k + 3 ≤ sd n) (hi : i < sd n) (hj : j < 2) : ∀ p ∈ visit n k i j, p.1 < sd n ∧ p.2 < sd n := by
  intro p hp
  unfold visit at hp
  split at hp
  · obtain rfl := List.mem_singleton.1 hp
    have h1 : rtN (sd n) k < sd n := by unfold rtN; split <;> omega
    have h2 : yOf (sd n) k i < sd n := by unfold yOf; split <;> omega
    exact ⟨by show rtN (sd n) k - j < sd n; omega, h2⟩
  · simp at hp
theorem pathN_in (n : Nat) : ∀ p ∈ pathN n, p.1 < sd n ∧ p.2 < sd n := by
  intro p hp
  unfold pathN path1 at hp
  obtain ⟨k, hk, hp⟩ := List.mem_flatMap.1 hp
  unfold path2 at hp
  obtain ⟨i, hi, hp⟩ := List.mem_flatMap.1 hp
  unfold path3 at hp
  obtain ⟨j, hj, hp⟩ := List.mem_flatMap.1 hp
  have h1 := List.mem_range.1 hk
  have h2 := List.mem_range.1 hi
  have h3 := List.mem_range.1 hj
  have hodd : sd n = 17 + 4 * n := rfl
  exact visit_in n k i j (by omega) h2 h3 p hp
theorem pathN_len (n : Nat) (h : n ≤ 40) : (pathN n).length ≤ 100000 := by
  rw [← pre_end]
  exact pre_len n _ 0 0 (by unfold sd; omega) (by unfold sd; omega) (by omega) (by omega)
theorem flat_pfx {α : Type} (f : Nat → List α) (a : Nat) : ∀ d, (List.range a).flatMap f <+: (List.range (a + d)).flatMap f
  | 0 => List.prefix_rfl
  | d + 1 => by
    refine (flat_pfx f a d).trans ?_
    rw [show a + (d + 1) = (a + d) + 1 from rfl, List.range_succ, List.flatMap_append]
    exact List.prefix_append _ _
theorem flat_le {α : Type} (f : Nat → List α) {a b : Nat} (h : a ≤ b) : (List.range a).flatMap f <+: (List.range b).flatMap f := by
  have := flat_pfx f a (b - a)
  rwa [show a + (b - a) = b by omega] at this
theorem pre_pfx (n k i j : Nat) (hk : 2 * k + 3 ≤ sd n) (hi : i < sd n) (hj : j < 2) : pre n k i (j + 1) <+: pathN n := by
  have h3 : path3 n k i (j + 1) <+: path3 n k i 2 := flat_le _ (by omega)
  have e2 : path2 n k (i + 1) = path2 n k i ++ path3 n k i 2 := by unfold path2; rw [List.range_succ, List.flatMap_append]; simp
  have h2 : path2 n k (i + 1) <+: path2 n k (sd n) := flat_le _ (by omega)
  have e1 : path1 n (k + 1) = path1 n k ++ path2 n k (sd n) := by unfold path1; rw [List.range_succ, List.flatMap_append]; simp
  have h1 : path1 n (k + 1) <+: pathN n := flat_le _ (by have hodd : sd n = 17 + 4 * n := rfl; omega)
  unfold pre
  refine List.IsPrefix.trans ?_ h1
  rw [e1, List.prefix_append_right_inj]
  refine List.IsPrefix.trans ?_ h2
  rw [e2, List.prefix_append_right_inj]
  exact h3

/-- The iterator that path returns gives all data modules in order, to every loop body that keeps what it has caught. -/
theorem path_stops (n : Nat) (h1 : 1 ≤ n) (h2 : n ≤ 40) (nn lo : Nat) (hn : 1 ≤ nn) (Bl Bc : Nat) (ao : Option Addr) (m c : Nat) (bo : Option Addr) (cq : Nat) (w : World)
    (hC : Cap w Bl Bc n (sd n) ao m c bo (sd n * sd n) cq (cellsN n)) (hb1 : lo ≤ Bl ∧ Bl < w.heap.size) (hb2 : lo ≤ Bc ∧ Bc < w.heap.size) (hb3 : ∀ a, bo = some a → lo ≤ a.block ∧ a.block < w.heap.size) :
    SeqStopsK Fence.wide nn Try.prog 81 #[.pointer (some ⟨Bl, 0, none⟩), .pointer (some ⟨Bc, 0, none⟩)] (@enc (sd n)) (Mid lo w.heap.size) (fun ys => vals ys = pathN n) (fun _ => True) (pathN n).length w := by
  intro l J Jx W hW hJ hJx hY h0
  have hsb : 21 ≤ sd n ∧ sd n ≤ 177 := by unfold sd; omega
  have hCW : Cap W Bl Bc n (sd n) ao m c bo (sd n * sd n) cq (cellsN n) := hC.ext hW
  refine (iter_in nn hn l Bl Bc n (sd n) ao m c bo (sd n * sd n) cq (cellsN n) (Mid lo w.heap.size) (fun p V => ∃ ys : List (Mod (sd n)), vals ys = p ∧ J ys V) (fun p V => ∃ ys : List (Mod (sd n)), Jx ys V)
    (fun A B hm hc => hc.mid hm hb1 hb2 hb3) W ?_ ?_ hsb (by unfold sd; omega) rfl (fun x y hx hy => cellsN_D n x y hx hy) (fun k i j => rfl) (fun k => pre_col n k) (pre_end n) (fun k i j a1 a2 a3 => pre_pfx n k i j a1 a2 a3) hCW ⟨[], rfl, h0⟩).mono ?_
  · rintro p A B ⟨ys, hp, hj⟩ hx
    exact ⟨ys, hp, hJ ys A B none hj (Ext.grownBy hx) (fun r e => by cases e)⟩
  · rintro p x V ⟨ys, rfl, hj⟩ hpx
    have hmem : x ∈ pathN n := hpx.subset (by simp)
    have hxr := pathN_in n x hmem
    have hlen : ys.length < (pathN n).length := by
      have := hpx.length_le
      unfold vals at this
      simp at this
      omega
    refine (hY ys ⟨x, hxr⟩ V hj hlen).mono ?_
    rintro e V' (⟨rfl, h3, h4⟩ | ⟨rfl, h3⟩)
    · exact .inl ⟨rfl, ⟨ys ++ [⟨x, hxr⟩], by simp [vals], h3⟩, h4⟩
    · exact .inr ⟨rfl, ⟨ys ++ [⟨x, hxr⟩], h3⟩⟩
  · rintro e V ⟨hv, ⟨ys, rfl, zs, hz, hj⟩ | ⟨p, _, zs, hj⟩⟩
    · exact ⟨hv, .inl ⟨zs, hz, hj⟩⟩
    · exact ⟨hv, .inr ⟨zs, trivial, hj⟩⟩

theorem mid_ext {lo hi : Nat} {A B : World} (h : Ext A B) (hs : hi ≤ A.heap.size) : Mid lo hi A B := fun k _ hk => h.block k (by omega)
theorem cells2 {w : World} {g : Nat} {c0 c1 : Value} {t : TypeId} {fr : Nat × Nat} (h : w.heap[g]? = some (.cells #[c0, c1] t fr)) : w.cell? ⟨g, 0, none⟩ = some c0 ∧ w.cell? ⟨g, 1, none⟩ = some c1 :=
  ⟨by rw [cell_of_row _ _ _ _ _ _ h]; rfl, by rw [cell_of_row _ _ _ _ _ _ h]; rfl⟩
theorem keep_from {W W' : World} {B : Nat} {e : TypeId} {sz n : Nat} {v v' : Value} {xs : List Value} (h : W.ownsRow B e sz v n xs) (hk : Keep W v W' v') (C : Nat) : KeepsFrom C W W' := by
  refine ⟨hk.size, fun q o _ hq ho => (hk.block q (Array.getElem?_eq_some_iff.1 hq).1 (fun e => ?_)).trans hq⟩
  rcases h.2 with ⟨hv, _⟩ | ⟨g, cap, cur, hv, _, hg, _⟩
  · rw [hv] at e
    cases e
  · rw [hv] at e
    obtain rfl : g = q := by simpa [Value.ownBlock] using e
    rw [hq] at hg
    cases hg
    cases ho

set_option maxRecDepth 100000 in
set_option maxHeartbeats 4000000 in
theorem path_res (v : Int) (w : World) : Calls Try.prog 25 #[.int .i64 v] w (RetPts w (pathRes v)) := by
  by_cases hv : inV v
  · obtain ⟨n, rfl, h1, h2⟩ := inV_nat hv
    rw [pathRes_1 hv]
    have HNL := Lib.hid (newLayout_1 n h1 h2 w)
    have HPA := fun (ao : Option Addr) (c : Nat) (V : World) (h : Row V ao (ints (al n))) => Lib.hid (path_any n h1 h2 ao c V h)
    have HPL := Lib.hid (pathN_len n h2)
    unfold RetLay at HNL
    unfold RetIter at HPA
    clear hv
    generalize ints (al n) = L at HNL HPA
    generalize (al n).length = m at HNL HPA
    unfold layV at *
    refine (callsIn_wide (n := 10)).1 ?_
    refine callsIn_of_wp_marks Try.func25 rfl trivial ?_ rfl
    simp only [Try.ntmps25, List.size_toArray, List.length_cons, List.length_nil, Nat.reduceAdd, Nat.reduceSub, Array.replicate_succ, Array.replicate_zero, List.push_toArray, List.append_toArray, List.nil_append, List.cons_append]
    refine wpIn_wide.2 ?_
    go_wp2_with fail
    refine HNL.out.mono ?_
    rintro e w1 ⟨ao, c, rfl, hr1, hx1⟩
    have HR1 := Lib.hid hr1
    have HX1 := Lib.hid hx1
    clear hr1 hx1
    go_wp2_with fail
    refine (HPA ao c _ (HR1.out.ext ((Ext.alloc _ _).trans (Ext.alloc _ _)))).out.mono ?_
    rintro e w2 ⟨Bl, Bc, bo, cq, rfl, hcap, hb1, hb2, hb3, hx2⟩
    obtain ⟨W1, hW1⟩ : ∃ W1, W1 = (w1.alloc (.cells #[.int .i64 n, .int .i64 (sd n), .slice ao m c] 69)).alloc (.cells #[.slice none 0 0] 51) := ⟨_, rfl⟩
    have HXW : Hid (Ext w W1) := by rw [hW1]; exact HX1.out.trans ((Ext.alloc _ _).trans (Ext.alloc _ _))
    have HWS : Hid (W1.heap.size = w1.heap.size + 2) := by rw [hW1, World.size_alloc, World.size_alloc]; rfl
    have HWS0 : Hid (w.heap.size ≤ w1.heap.size) := HX1.out.size
    have HB0 : Hid (∀ V, Ext W1 V → V.heap[w1.heap.size + 1]? = some (.cells #[.slice none 0 0] 51 (0, 0))) := by
      intro V hv
      rw [hW1] at hv
      have := hv.new
      rwa [World.size_alloc] at this
    rw [← hW1] at hb1 hb2 hb3 hx2
    clear hW1
    have HST := Lib.hid (path_stops n h1 h2 9 W1.heap.size (by omega) Bl Bc ao m c bo cq w2 hcap hb1 hb2 hb3)
    have HX2 := Lib.hid hx2
    clear hcap hb1 hb2 hb3 hx2
    go_wp2_with fail
    refine (wpIn_wide (n := 10)).1 ?_
    have HHI : Hid (W1.heap.size ≤ w2.heap.size) := HX2.out.size
    generalize sd n = k at *
    refine wpIn_rangeFunc_ownH (n := 10) rfl (by omega) (gf := 81) (lb := #[.pointer (some ⟨Bl, 0, none⟩), .pointer (some ⟨Bc, 0, none⟩)]) rfl trivial (enters_of Try.func81 (by kernel_rfl) rfl)
      HST.out (fun h k => h.trans k) (fun W l o o' h1 h2 _ _ k hk1 hk2 => World.putObj_heap_other (by omega)) (Below.refl _ _) (fun _ => rfl)
      (fun pre W => (∃ v, W.heap[w1.heap.size + 1]? = some (.cells #[v] 51 (0, 0)) ∧ W.ownsRow w2.heap.size 45 2 v (vals pre).length (pcells (vals pre))) ∧ Ext w W ∧ w2.heap.size ≤ W.heap.size)
      (fun _ _ _ => False)
      (fun s A B row hs hg hr => ⟨?i1, ?i2⟩) (fun _ _ _ _ _ hs _ _ => hs) ⟨⟨_, HB0.out _ HX2.out, World.ownsRow_nil _ _ _ _⟩, HXW.out.trans HX2.out, Nat.le_refl _⟩
      (fun x a' W => ∃ Bx, W.heap[Bx]? = some (.cells #[.int .i64 ((x.1.1 : Nat) : Int), .int .i64 ((x.1.2 : Nat) : Int)] 45 (0, 0)) ∧
        a' = { tmps := #[.int .i64 n, undef, .slice none 0 0, .int .i64 0, .pointer (some ⟨w1.heap.size, 0, none⟩), .int .i64 0, .pointer (some ⟨w1.heap.size + 1, 0, none⟩), .pointer (some ⟨Bx, 0, none⟩), .tuple #[.agg #[.int .i64 n, .int .i64 k, .slice ao m c], .int .i64 0], .int .i64 n, .tuple #[.agg #[.int .i64 n, .int .i64 k, .slice ao m c], .int .i64 0], .agg #[.int .i64 n, .int .i64 k, .slice ao m c], .int .i64 0, .int .i64 0, .bool false, undef, .agg #[.int .i64 n, .int .i64 k, .slice ao m c], .func (.func 81) #[] #[.pointer (some ⟨Bl, 0, none⟩), .pointer (some ⟨Bc, 0, none⟩)], .agg #[.int .i64 ((x.1.1 : Nat) : Int), .int .i64 ((x.1.2 : Nat) : Int)], undef, undef, undef, undef, undef], defers := [] })
      (fun x a' s A B row hs hg hr => ?hax) ?assign ?body ?done ?stop
    case i1 =>
      obtain ⟨⟨v, hv1, hv2⟩, _⟩ := hs
      exact ⟨v, turn_heap hv1 hg (fun r e => (hr r e).2), turn_own hv2 hg (fun r e => (hr r e).2)⟩
    case i2 => exact ⟨turn_ext hs.2.1 hg (fun r e => (hr r e).1) (by have := HXW.out.size; have := HHI.out; omega), Nat.le_trans hs.2.2 hg.size⟩
    case hax =>
      obtain ⟨Bx, h1, h2⟩ := hs
      exact ⟨Bx, turn_heap h1 hg (fun r e => (hr r e).2), h2⟩
    case assign =>
      intro l pre x W K hi hK
      obtain ⟨⟨px, py⟩, hxr⟩ := x
      simp only [enc] at hK ⊢
      gi_wp2
      obtain ⟨⟨v, hv1, hv2⟩, hxw, hsz⟩ := hi
      exact hK _ _ ((KeepsOthers.alloc _ _).from _) (mid_ext (Ext.alloc _ _) hsz) ⟨⟨v, (Ext.alloc _ _).old hv1, hv2.alloc _⟩, hxw.trans (Ext.alloc _ _), Nat.le_trans hsz (Ext.alloc _ _).size⟩ ⟨W.heap.size, heap_alloc_new _ _, rfl⟩
    case body =>
      rintro l pre ⟨⟨px, py⟩, hxr⟩ a' W hl hr ⟨⟨v, hv1, hv2⟩, hxw, hsz⟩ ⟨Bx, hBx, rfl⟩ hlt
      gi_upto_region 7 with fail
      refine wpIn_round_list (by kernel_rfl) (fun _ _ h => h) ?_
      have hb0 : w1.heap.size + 1 < w2.heap.size := by have := HWS.out; have := HHI.out; omega
      have hvl : (vals pre).length < 100000 := by have := HPL.out; unfold vals; rw [List.length_map]; omega
      obtain ⟨so, sc, rfl, -, -, -⟩ := Pts.own hv2
      have hz0 := Boxed.cell hv1
      obtain ⟨hx0, hx1⟩ := cells2 hBx
      go_wp2_with (at_builtin; refine wpList_pushK rfl _ _ 51 rfl w2.heap.size 45 (.agg #[.int .i64 0, .int .i64 0]) 2 16 Try.infoPoint rfl (by decide) Try.underlying51 _ rfl _ _ hv2 [.int .i64 px, .int .i64 py] rfl rfl (by simp [Value.oneCell']) (by omega) (by omega) hsz ?_; intro v4 w4 hown4 hk4; have hb4 : Boxed w4 (w1.heap.size + 1) 51 _ := (hk4.block _ (by omega) (own_below hv2 hb0)).trans hv1; have hz4 := hb4.cell; have hf4 := hb4.frozen; obtain ⟨g4, cap4, rfl, hg4, -, -, -⟩ := own_ptr hown4 (by omega))
      have hk5 := keep_from hv2 hk4 w2.heap.size
      refine ⟨hk5.trans ((KeepsOthers.setCell _ _ _).from _), ?_, ⟨_, hb4.set _, ?_⟩, ?_, ?_⟩
      · intro q hq1 hq2
        have hws := HWS.out
        rw [heap_set w4 (w1.heap.size + 1) 0 _ q (by omega)]
        exact hk4.block q (by omega) (own_below hv2 hq2)
      · have e1 : vals (pre ++ [⟨(px, py), hxr⟩]) = vals pre ++ [(px, py)] := by simp [vals]
        rw [e1, pcells_snoc, List.length_append]
        exact own_off hown4 (fun q hq => heap_set w4 _ 0 _ q hq) (own_below hown4 hb0)
      · have hle : w.heap.size ≤ w2.heap.size := by have := HXW.out.size; have := HHI.out; omega
        have hx5 : Ext w w4 := Below.trans hxw (hk4.below hxw.size (fun q hq => by have := (hv2.lt q hq).1; omega))
        exact hx5.set (by have := HWS0.out; show w.heap.size ≤ w1.heap.size + 1; omega) _ _
      · rw [World.size_setCell]
        exact Nat.le_trans hsz hk4.size
    case done =>
      rintro D ys W hD hS ⟨⟨v, hv1, hv2⟩, hxw, hsz⟩ hK
      have hc := Boxed.cell hv1
      go_wp2_with fail
      have hgp := grownBy_putObj' W D (.deferred none)
      have ho2 := turn_own hv2 hgp (fun r e => by cases e; exact ⟨_, hK, rfl⟩)
      have hx2 := turn_ext hxw hgp (B := w2.heap.size) (fun r e => by cases e; exact hD) (by have := HXW.out.size; have := HHI.out; omega)
      rw [show vals ys = pathN n from hS] at ho2
      obtain ⟨so, sc, rfl, h3, h4, h5⟩ := Pts.own ho2
      refine ⟨by simp, .inl ⟨_, _, rfl, run_takeDeferred hK, ?_⟩⟩
      exact ⟨_, results_tmp2 rfl _ _ _, so, sc, rfl, h5, h3, h4, hx2⟩
    case stop =>
      rintro D c pre W hD _ h _
      exact h.elim
  · rw [pathRes_2 hv]
    have HNL := Lib.hid (newLayout_2 v hv w)
    clear hv
    go_enter Try.func25, Try.ntmps25
    go_wp2_with fail
    refine HNL.out.mono ?_
    rintro e w1 ⟨rfl, hx1⟩
    have HX1 := Lib.hid hx1
    clear hx1
    go_wp2_with fail
    go_ret2
    exact RetPts.nil _ _ _ (HX1.out.trans (Ext.alloc _ _))

end Go.Proofs.Ytjkpdhcnklgfbaa
