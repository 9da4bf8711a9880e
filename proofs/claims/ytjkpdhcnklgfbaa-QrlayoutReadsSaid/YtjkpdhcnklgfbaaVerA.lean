/-
  Contracts of the tables of qrversion.
  Conditions: the version is 1 to 40.
-/
import Derived.Test.YtjkpdhcnklgfbaaRows
import Derived.Test.YtjkpdhcnklgfbaaTab
import Derived.Test.YtjkpdhcnklgfbaaNum
import Derived.Test.YtjkpdhcnklgfbaaVerPlain
namespace Go.Proofs.Ytjkpdhcnklgfbaa
open Go.RowKit Go.Bs Go.Qrv

def cenCells : Array Value := (ints cenFlat).toArray
def rowCells : Array Value := (ints rowFlat).toArray
theorem cenCells_cut (n : Nat) (h1 : 1 ≤ n) (h2 : n ≤ 40) : (cenCells.toList.drop ((n - 1) * 7)).take 7 = ints (cenRow n) := by
  have := cen_cut ⟨n - 1, by omega⟩
  simp only [show n - 1 + 1 = n by omega] at this
  unfold cenCells
  rw [List.toList_toArray, ← ints_cut, this]
theorem rowCells_cut (n : Nat) (h1 : 1 ≤ n) (h2 : n ≤ 40) : (rowCells.toList.drop ((n - 1) * 10)).take 10 = ints (rowRow n) := by
  have := row_cut ⟨n - 1, by omega⟩
  simp only [show n - 1 + 1 = n by omega] at this
  unfold rowCells
  rw [List.toList_toArray, ← ints_cut, this]

theorem cenRow_length (n : Nat) (h1 : 1 ≤ n) (h2 : n ≤ 40) : (cenRow n).length = 7 := by
  have := cen_len ⟨n - 1, by omega⟩
  simp only [show n - 1 + 1 = n by omega] at this
  exact this
theorem rowRow_length (n : Nat) (_ : 1 ≤ n) (_ : n ≤ 40) : (rowRow n).length = 10 := rfl
def zeros (n : Nat) : Array Value := Array.replicate n (.int .i64 0)
theorem size_zeros (n : Nat) : (zeros n).size = n := by simp [zeros]

set_option maxRecDepth 100000 in
set_option maxHeartbeats 4000000 in
theorem centers_any (n : Nat) (w : World) (h1 : 1 ≤ n) (h2 : n ≤ 40) :
    Calls Try.prog 86 #[.int .i64 n] w fun e w' => e = .returned (.agg (ints (cenRow n)).toArray) ∧ Ext w w' := by
  have hi1 : ((n : Int) - 1).toNat = n - 1 := by omega
  have hi0 : (0 : Int) ≤ (n : Int) - 1 := by omega
  have hi2 : (n : Int) - 1 < 40 := by omega
  have hst : ∀ o, (storeCells ⟨w.heap.size + 1, 0, none⟩ cenCells.toList).run Try.prog ((w.alloc o).alloc (.cells (zeros 280) 121)) = .ok () ((w.alloc o).alloc (.cells cenCells 121)) :=
    fun o => run_storeNew2 Try.prog w o _ _ _ (by kernel_rfl) (by kernel_rfl)
  have hld : ∀ o, Hid (Row ((w.alloc o).alloc (.cells cenCells 121)) (some ⟨w.heap.size + 1, (n - 1) * 7, none⟩) (ints (cenRow n))) := by
    intro o
    have hz : (w.alloc o).heap.size = w.heap.size + 1 := by simp
    have hg := heap_alloc_new (w.alloc o) (.cells cenCells 121)
    rw [hz] at hg
    have := Row.block hg ((n - 1) * 7) 7
    rw [cenCells_cut n h1 h2] at this
    exact this
  have hlen : Hid ((cenRow n).length = 7) := cenRow_length n h1 h2
  have hsz : Hid ((ints (cenRow n)).toArray.size = 7) := by show _ = _; rw [List.size_toArray, length_ints, hlen.out]
  have hi : Hid ((Try.prog.info? 114).map (·.size) = some (ints (cenRow n)).length) := by show _ = _; rw [length_ints, hlen.out]; kernel_rfl
  go_enter Try.func86, Try.ntmps86
  go_wp2_with (first
    | ((with_reducible show wpList _ _ _ (⟨some 44, _, _, _, _, _⟩ :: _) _ _); refine wpList_buildTo rfl _ _ rfl cenCells (by kernel_rfl) ?_)
    | (refine wpList_build rfl _ _ rfl (by kernel_rfl) ?_)
    | ((with_reducible show wpList _ _ _ (⟨some 3, _, _, _, _, _⟩ :: _) _ _); refine wpList_allocAgg rfl _ rfl (zeros 280) (by kernel_rfl) ?_)
    | ((with_reducible show wpList _ _ _ (⟨none, .store 121 _ _, _, _, _, _⟩ :: _) _ _); fail)
    | ((with_reducible show wpList _ _ _ (⟨some 48, _, _, _, _, _⟩ :: _) _ _); refine wpList_loadAgg rfl 114 _ rfl _ Try.underlying114 rfl ⟨w.heap.size + 1, (n - 1) * 7, none⟩ rfl (ints (cenRow n)) (hld _).out hi.out ?_)
    | ((with_reducible show wpList _ _ _ (⟨none, .store 114 _ _, _, _, _, _⟩ :: _) _ _); refine wpList_storeOwn rfl 114 _ _ rfl w.heap.size (ints (cenRow n)).toArray rfl rfl 114 _ (heap_alloc2_old _ _ _) (by rw [List.size_toArray]; exact hi.out) (by rw [hsz.out]; rfl) (all_ints _) w ((Ext.alloc _ _).trans (Ext.alloc _ _)) (Nat.le_refl _) ?_; intro w1 HE1 HG1))
  exact bodyPost_ret (results_cell_row rfl _ w1 w.heap.size 114 (ints (cenRow n)).toArray (0, 0) _ rfl HG1.out Try.underlying114 rfl (by rw [List.size_toArray]; exact hi.out)) rfl ⟨rfl, HE1⟩
set_option maxRecDepth 100000 in
set_option maxHeartbeats 4000000 in
theorem row_any (n : Nat) (w : World) (h1 : 1 ≤ n) (h2 : n ≤ 40) :
    Calls Try.prog 83 #[.int .i64 n] w fun e w' => e = .returned (.agg (ints (rowRow n)).toArray) ∧ Ext w w' := by
  have hi1 : ((n : Int) - 1).toNat = n - 1 := by omega
  have hi0 : (0 : Int) ≤ (n : Int) - 1 := by omega
  have hi2 : (n : Int) - 1 < 40 := by omega
  have hst : ∀ o, (storeCells ⟨w.heap.size + 1, 0, none⟩ rowCells.toList).run Try.prog ((w.alloc o).alloc (.cells (zeros 400) 120)) = .ok () ((w.alloc o).alloc (.cells rowCells 120)) :=
    fun o => run_storeNew2 Try.prog w o _ _ _ (by kernel_rfl) (by kernel_rfl)
  have hld : ∀ o, Hid (Row ((w.alloc o).alloc (.cells rowCells 120)) (some ⟨w.heap.size + 1, (n - 1) * 10, none⟩) (ints (rowRow n))) := by
    intro o
    have hz : (w.alloc o).heap.size = w.heap.size + 1 := by simp
    have hg := heap_alloc_new (w.alloc o) (.cells rowCells 120)
    rw [hz] at hg
    have := Row.block hg ((n - 1) * 10) 10
    rw [rowCells_cut n h1 h2] at this
    exact this
  have hlen : Hid ((rowRow n).length = 10) := rowRow_length n h1 h2
  have hsz : Hid ((ints (rowRow n)).toArray.size = 10) := by show _ = _; rw [List.size_toArray, length_ints, hlen.out]
  have hi : Hid ((Try.prog.info? 110).map (·.size) = some (ints (rowRow n)).length) := by show _ = _; rw [length_ints, hlen.out]; kernel_rfl
  go_enter Try.func83, Try.ntmps83
  go_wp2_with (first
    | ((with_reducible show wpList _ _ _ (⟨some 44, _, _, _, _, _⟩ :: _) _ _); refine wpList_buildTo rfl _ _ rfl rowCells (by kernel_rfl) ?_)
    | (refine wpList_build rfl _ _ rfl (by kernel_rfl) ?_)
    | ((with_reducible show wpList _ _ _ (⟨some 3, _, _, _, _, _⟩ :: _) _ _); refine wpList_allocAgg rfl _ rfl (zeros 400) (by kernel_rfl) ?_)
    | ((with_reducible show wpList _ _ _ (⟨none, .store 120 _ _, _, _, _, _⟩ :: _) _ _); fail)
    | ((with_reducible show wpList _ _ _ (⟨some 48, _, _, _, _, _⟩ :: _) _ _); refine wpList_loadAgg rfl 110 _ rfl _ Try.underlying110 rfl ⟨w.heap.size + 1, (n - 1) * 10, none⟩ rfl (ints (rowRow n)) (hld _).out hi.out ?_)
    | ((with_reducible show wpList _ _ _ (⟨none, .store 110 _ _, _, _, _, _⟩ :: _) _ _); refine wpList_storeOwn rfl 110 _ _ rfl w.heap.size (ints (rowRow n)).toArray rfl rfl 110 _ (heap_alloc2_old _ _ _) (by rw [List.size_toArray]; exact hi.out) (by rw [hsz.out]; rfl) (all_ints _) w ((Ext.alloc _ _).trans (Ext.alloc _ _)) (Nat.le_refl _) ?_; intro w1 HE1 HG1))
  exact bodyPost_ret (results_cell_row rfl _ w1 w.heap.size 110 (ints (rowRow n)).toArray (0, 0) _ rfl HG1.out Try.underlying110 rfl (by rw [List.size_toArray]; exact hi.out)) rfl ⟨rfl, HE1⟩

end Go.Proofs.Ytjkpdhcnklgfbaa
