/-
  Contracts of Faults for every matrix, of the statements' small, and of Same at equal matrices.
  Conditions: bounds of the sizes.
-/
import Derived.Test.YtjkpdhcnklgfbaaLive
namespace Go.Proofs.Ytjkpdhcnklgfbaa
open Go.RowKit Go.Bs Go.ChangeShapes Go.WideShapes Go.ChangeAt Go.Joins Go.Qrv Go.Lay

theorem Try.cellsBool : Try.prog.cellsOf 4 = 1 := by kernel_rfl
theorem Try.cellsInt : Try.prog.cellsOf 3 = 1 := by kernel_rfl

/-- What Faults returns. -/
def fltRes (W H : Int) (n : Nat) (xs : List Bool) : Int × Int := if mcode W H n = 0 then (fltN (((W - 17) / 4).toNat) xs n, 0) else (0, mcode W H n)
theorem side_ver (v : Nat) : ((((sd v : Nat) : Int) - 17) / 4).toNat = v := by unfold sd; omega
theorem faults_any (W H : Int) (xs : List Bool) (ao : Option Addr) (n cap : Nat) (w : World) (hl : xs.length = n) (hcap : n ≤ cap) (hr : Row w ao (bools xs)) :
    Calls Try.prog 14 #[.agg (matV W H ao n cap)] w fun e w' => e = .returned (two (fltRes W H n xs)) ∧ Ext w w' := by
  by_cases hc : mcode W H n = 0
  · obtain ⟨v, h1, h2, rfl, rfl, rfl⟩ := mcode_ok hc
    rw [show fltRes (sd v) (sd v) (sd v * sd v) xs = (((fltN v xs (sd v * sd v) : Nat) : Int), (0 : Int)) from by unfold fltRes; rw [if_pos hc, side_ver]]
    exact faults_ok v h1 h2 xs ao cap w hl hcap hr
  · rw [show fltRes W H n xs = (0, mcode W H n) from by unfold fltRes; rw [if_neg hc]]
    exact faults_no W H ao n cap w hc
theorem rfaults_any (W H : Int) (xs : List Bool) (ao : Option Addr) (n cap : Nat) (w : World) (hl : xs.length = n) (hcap : n ≤ cap) (hr : Row w ao (bools xs)) :
    Calls Try.prog 15 #[.agg (matV W H ao n cap)] w fun e w' => e = .returned (two (fltRes W H n xs)) ∧ Ext w w' := by
  by_cases hc : mcode W H n = 0
  · obtain ⟨v, h1, h2, rfl, rfl, rfl⟩ := mcode_ok hc
    rw [show fltRes (sd v) (sd v) (sd v * sd v) xs = (((fltN v xs (sd v * sd v) : Nat) : Int), (0 : Int)) from by unfold fltRes; rw [if_pos hc, side_ver]]
    exact rfaults_ok v h1 h2 xs ao cap w hl hcap hr
  · rw [show fltRes W H n xs = (0, mcode W H n) from by unfold fltRes; rw [if_neg hc]]
    exact rfaults_no W H ao n cap w hc

set_option maxRecDepth 20000 in
set_option maxHeartbeats 400000 in
theorem small20_any (W H : Int) (ao : Option Addr) (n cap : Nat) (w : World) :
    Calls Try.prog 10 #[.agg (matV W H ao n cap)] w fun e w' => e = .returned (.bool (decide ((n : Int) ≤ 40000))) ∧ Ext w w' := by
  unfold matV
  go_enter Try.func10, Try.ntmps10
  go_wp2_with fail
  go_ret
  exact ⟨rfl, Ext.alloc _ _⟩

set_option maxRecDepth 20000 in
set_option maxHeartbeats 1000000 in
theorem same_same (W H : Int) (ao bo : Option Addr) (n ca cb : Nat) (xs : List Bool) (w : World) (hx : xs.length = n) (hb : n ≤ 4611686018427387904) (hr : Row w ao (bools xs)) (hs : Row w bo (bools xs)) :
    Calls Try.prog 16 #[.agg (matV W H ao n ca), .agg (matV W H bo n cb)] w fun e w' => e = .returned (.bool true) ∧ Ext w w' :=
  (same20_any W H W H ao bo n ca n cb xs xs w hx hx hb hr hs).mono fun e w' h => by
    obtain ⟨rfl, hx⟩ := h
    exact ⟨by simp, hx⟩


end Go.Proofs.Ytjkpdhcnklgfbaa
