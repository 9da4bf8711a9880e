/-
  The contracts of qrlayout's newLayout and Cells, and of the reference's Cells.
  Conditions: none for Cells.
-/
import Derived.Test.YtjkpdhcnklgfbaaRPur
import Derived.Test.YtjkpdhcnklgfbaaStore
import Derived.Deep.RegionWith
namespace Go.Proofs.Ytjkpdhcnklgfbaa
open Go.RowKit Go.Bs Go.Qrv Go.Lay

def alOk (n : Nat) : Bool := decide ((al n).length ≤ 7) && (al n).all (fun a => decide (6 ≤ a) && decide (a ≤ 1000)) && decide ((al n).Pairwise fun a b => a + 5 ≤ b)
theorem al_ok : ∀ i : Fin 40, alOk (i.val + 1) = true := by decide +kernel
theorem al_facts (n : Nat) (h1 : 1 ≤ n) (h2 : n ≤ 40) : (al n).length ≤ 7 ∧ (∀ a ∈ al n, 6 ≤ a ∧ a ≤ 1000) ∧ Sparse (al n) := by
  have h := al_ok ⟨n - 1, by omega⟩
  simp only [show n - 1 + 1 = n by omega] at h
  unfold alOk at h
  simp only [Bool.and_eq_true, decide_eq_true_eq, List.all_eq_true] at h
  refine ⟨h.1.1, h.1.2, ?_⟩
  intro i j hi hj hij
  have hp := List.pairwise_iff_getElem.1 h.2
  rcases Nat.lt_or_gt_of_ne hij with e | e
  · exact Or.inl (hp i j hi hj e)
  · exact Or.inr (hp j i hj hi e)

/-- The side. -/
def sd (n : Nat) : Nat := 17 + 4 * n
def cellsN (n : Nat) : List Int := cellsL n (sd n) (al n) (sd n * sd n)
def cellsRes (v : Int) : List Int × Int := if inV v then (cellsN v.toNat, 0) else ([], 14)
theorem cellsRes_1 {v : Nat} (h : inV v) : cellsRes v = (cellsN v, 0) := by unfold cellsRes; rw [if_pos h]; rfl
theorem cellsRes_2 {v : Int} (h : ¬ inV v) : cellsRes v = ([], 14) := by unfold cellsRes; rw [if_neg h]

/-- The layout of a version is returned. -/
def RetLay (w : World) (n : Nat) (l : List Int) (e : Ending) (w' : World) : Prop :=
  ∃ ao cap, e = .returned (.tuple #[.agg (layV n (sd n) ao l.length cap), .int .i64 0]) ∧ Row w' ao (ints l) ∧ Ext w w'

set_option maxRecDepth 20000 in
set_option maxHeartbeats 800000 in
theorem newLayout_1 (n : Nat) (h1 : 1 ≤ n) (h2 : n ≤ 40) (w : World) : Calls Try.prog 36 #[.int .i64 n] w (RetLay w n (al n)) := by
  have HSZ := Lib.hid (szRes_1 (v := (n : Int)) ⟨by omega, by omega⟩)
  have HAR := Lib.hid (alRes_1 (v := n) ⟨by omega, by omega⟩)
  have HSD : Hid ((17 + 4 * (n : Int)) = ((sd n : Nat) : Int)) := by unfold sd; show _ = _; omega
  have HNL : Hid (∀ a ∈ al n, 1 ≤ a) := fun a ha => by have := (al_facts n h1 h2).2.1 a ha; omega
  generalize al n = L at HAR HNL ⊢
  go_enter Try.func36, Try.ntmps36
  go_wp2_with fail
  refine (size_any _ _).mono ?_
  rw [HSZ.out]
  rintro e w' ⟨rfl, rfl⟩
  simp only [two]
  go_wp2_with fail
  refine (aligns_any _ _).mono ?_
  rw [HAR.out]
  intro e w1 hret
  obtain ⟨b1, c1, rfl, hr1, _, _, _, hx1⟩ := hret.ints
  clear hret
  have HG := Lib.hid hx1.new
  have HX : Ext w w1 := (Ext.alloc _ _).trans hx1
  have HR := Lib.hid hr1
  clear hx1 hr1
  simp only
  rw [HSD.out]
  go_wp2_with ((with_reducible show wpList _ _ _ (⟨none, .store 69 _ _, _, _, _, _⟩ :: _) _ _); refine wpList_storeOwnK rfl 69 _ _ rfl w.heap.size _ rfl rfl 69 _ HG.out (by kernel_rfl) (by kernel_rfl) (by kernel_rfl) w HX (Nat.le_refl _) ?_; intro w2 HX2 HG2 HK2)
  refine bodyPost_ret (results_cellSlot rfl _ w2 w.heap.size 69 _ (0, 0) _ rfl HG2.out Try.underlying69 rfl (by kernel_rfl)) rfl ?_
  exact ⟨b1, c1, rfl, HR.out.off3 HNL.out HG.out HK2.out, HX2⟩

set_option maxRecDepth 20000 in
set_option maxHeartbeats 800000 in
theorem newLayout_2 (v : Int) (h : ¬ inV v) (w : World) : Calls Try.prog 36 #[.int .i64 v] w fun e w' =>
    e = .returned (.tuple #[.agg #[.int .i64 0, .int .i64 0, .slice none 0 0], .int .i64 14]) ∧ Ext w w' := by
  have HSZ := Lib.hid (szRes_2 h)
  clear h
  go_enter Try.func36, Try.ntmps36
  go_wp2_with fail
  refine (size_any _ _).mono ?_
  rw [HSZ.out]
  rintro e w' ⟨rfl, rfl⟩
  simp only [two]
  go_wp2_with ((with_reducible show wpList _ _ _ (⟨none, .store 69 _ _, _, _, _, _⟩ :: _) _ _); refine wpList_storeOwnK rfl 69 _ _ rfl w.heap.size _ rfl rfl 69 _ (heap_alloc_new _ _) (by kernel_rfl) (by kernel_rfl) (by kernel_rfl) w (Ext.alloc _ _) (Nat.le_refl _) ?_; intro w2 HX2 HG2 HK2)
  exact bodyPost_ret (results_cellSlot rfl _ w2 w.heap.size 69 _ (0, 0) _ rfl HG2.out Try.underlying69 rfl (by kernel_rfl)) rfl ⟨rfl, HX2⟩

set_option maxRecDepth 20000 in
set_option maxHeartbeats 800000 in
theorem cells_res (v : Int) (w : World) : Calls Try.prog 23 #[.int .i64 v] w (RetSl w (ints (cellsRes v).1, (cellsRes v).2)) := by
  by_cases hv : inV v
  · obtain ⟨n, rfl, h1, h2⟩ := inV_nat hv
    rw [cellsRes_1 hv]
    obtain ⟨a1, a2, a3⟩ := al_facts n h1 h2
    have HCE := fun (ao : Option Addr) (cap : Nat) (W : World) (h : Row W ao (ints (al n))) => Lib.hid (cells_any n (sd n) (al n) ao cap W h (by omega) (fun a ha => by have := a2 a ha; omega) (by unfold sd; omega) (by omega))
    have HNL := Lib.hid (newLayout_1 n h1 h2 w)
    clear hv a1 a2 a3
    have HCN : Hid (cellsL n (sd n) (al n) (sd n * sd n) = cellsN n) := rfl
    rw [HCN.out] at HCE
    generalize al n = L at HCE HNL
    generalize cellsN n = C at HCE ⊢
    clear HCN
    go_enter Try.func23, Try.ntmps23
    go_wp2_with fail
    refine HNL.out.mono ?_
    rintro e w1 ⟨ao, cap, rfl, hr1, hx1⟩
    have HR1 := Lib.hid hr1
    have HX1 := Lib.hid hx1
    clear hr1 hx1
    unfold layV at HCE ⊢
    generalize L.length = m at HCE ⊢
    go_wp2_with fail
    refine (HCE ao cap _ (HR1.out.ext (Ext.alloc _ _))).out.mono ?_
    intro e w2 hret
    obtain ⟨b2, c2, rfl, hr2, hl2, hm2, hn2, hx2⟩ := hret.ints
    clear hret
    go_wp2_with fail
    go_ret2
    exact ⟨b2, c2, by rw [length_ints]; rfl, hr2, by rw [length_ints]; exact hl2, hm2, hn2, HX1.out.trans ((Ext.alloc _ _).trans hx2)⟩
  · rw [cellsRes_2 hv]
    have HNL := Lib.hid (newLayout_2 v hv w)
    clear hv
    go_enter Try.func23, Try.ntmps23
    go_wp2_with fail
    refine HNL.out.mono ?_
    rintro e w1 ⟨rfl, hx1⟩
    go_wp2_with fail
    go_ret2
    exact RetSl.nil _ _ _ (hx1.trans (Ext.alloc _ _))

end Go.Proofs.Ytjkpdhcnklgfbaa
