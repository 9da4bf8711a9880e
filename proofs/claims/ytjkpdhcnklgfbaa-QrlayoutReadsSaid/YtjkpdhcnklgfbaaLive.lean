/-
  The statements' examples hold.
  Condition: none.
  What the laws of this seat share; the contract of the reference's Points.
  No condition.
  Contracts of Faults for every matrix, of the statements' small, and of Same at equal matrices.
  Conditions: bounds of the sizes.
-/
import Derived.Test.YtjkpdhcnklgfbaaPathA
import Derived.Test.YtjkpdhcnklgfbaaDark
import Derived.Test.YtjkpdhcnklgfbaaForm
import Derived.Test.YtjkpdhcnklgfbaaRPath
import Derived.Test.YtjkpdhcnklgfbaaFrame
namespace Go.Proofs.Ytjkpdhcnklgfbaa
open Go.RowKit Go.Bs Go.Qrv Go.Lay Go.Bch

theorem live_path : (pathN 1).length = 208 ∧ (pathN 1)[0]? = some (20, 20) ∧ (pathN 1)[2]? = some (20, 19) := by decide +kernel
theorem live_flt : fltN 1 (List.replicate 441 false) 441 = 106 := by decide +kernel
theorem live_sg : (fmtRes 2 0).2 = 0 := by decide +kernel
theorem live_rd : rdRes 1 (signN 1 (fmtRes 2 0).1 (blankN 1)) = (1, 2, 0, 0) := by decide +kernel

theorem path_1 (w : World) : Calls Try.prog 25 #[.int .i64 1] w (RetPts w (pathN 1, 0)) := path_res 1 w
theorem blank_1 (w : World) : Calls Try.prog 12 #[.int .i64 1] w fun e w' =>
    ∃ g cap, e = .returned (.tuple #[.agg #[.int .i64 21, .int .i64 21, .slice (some ⟨g, 0, none⟩) 441 cap], .int .i64 0]) ∧ w'.ownsRow w.heap.size 4 1 (.slice (some ⟨g, 0, none⟩) 441 cap) 441 (bools (blankN 1)) ∧ 441 ≤ cap ∧ Ext w w' :=
  (blank_res 1 w).mono fun e w' h => by
    obtain ⟨s, he, ho, hx⟩ := h
    have ho' : w'.ownsRow w.heap.size 4 1 s (blankN 1).length (bools (blankN 1)) := ho
    rw [show (blankN 1).length = 441 from blankN_len 1] at ho'
    obtain ⟨g, cap, rfl, -, -, hc, -⟩ := own_ptr ho' (by decide)
    exact ⟨g, cap, he, ho', hc, hx⟩
theorem faults_1 (xs : List Bool) (ao : Option Addr) (cap : Nat) (w : World) (hl : xs.length = 441) (hcap : 441 ≤ cap) (hr : Row w ao (bools xs)) :
    Calls Try.prog 14 #[.agg #[.int .i64 21, .int .i64 21, .slice ao 441 cap]] w fun e w' => e = .returned (two (fltN 1 xs 441, 0)) ∧ Ext w w' :=
  faults_ok 1 (by decide) (by decide) xs ao cap w hl hcap hr
theorem sign_1 (xs : List Bool) (ao : Option Addr) (cap : Nat) (w : World) (hl : xs.length = 441) (hn0 : ao = none → cap = 0) (hr : Row w ao (bools xs)) :
    Calls Try.prog 17 #[.agg #[.int .i64 21, .int .i64 21, .slice ao 441 cap], .int .i64 2, .int .i64 0] w fun e w' =>
    ∃ g cap, e = .returned (.tuple #[.agg #[.int .i64 21, .int .i64 21, .slice (some ⟨g, 0, none⟩) 441 cap], .int .i64 0]) ∧ w'.ownsRow w.heap.size 4 1 (.slice (some ⟨g, 0, none⟩) 441 cap) 441 (bools (signN 1 (fmtRes 2 0).1 xs)) ∧ Ext w w' := by
  have key := sign_ok 1 (by decide) (by decide) xs ao cap 2 0 w hl hn0 hr
  rw [sgRes_1 live_sg] at key
  have hsl : (signN 1 (fmtRes 2 0).1 xs).length = 441 := by rw [signN_len, hl]
  generalize signN 1 (fmtRes 2 0).1 xs = SG at key hsl ⊢
  have key2 : Calls Try.prog 17 #[.agg #[.int .i64 21, .int .i64 21, .slice ao 441 cap], .int .i64 2, .int .i64 0] w (RetMat 4 w ((21, 21, SG), 0)) := key
  refine key2.mono fun e w' h => ?_
  obtain ⟨s, he, ho, hx⟩ := h
  have ho' : w'.ownsRow w.heap.size 4 1 s SG.length (bools SG) := ho
  rw [hsl] at ho'
  obtain ⟨g, cap, rfl, -, -, hc, -⟩ := own_ptr ho' (by decide)
  exact ⟨g, cap, he, ho', hx⟩
theorem read_1 (xs : List Bool) (ao : Option Addr) (cap : Nat) (w : World) (hl : xs.length = 441) (hr : Row w ao (bools xs)) :
    Calls Try.prog 19 #[.agg #[.int .i64 21, .int .i64 21, .slice ao 441 cap]] w fun e w' => e = .returned (four (rdRes 1 xs)) ∧ Ext w w' :=
  read_ok 1 (by decide) (by decide) xs ao cap w hl hr

theorem row_own {w : World} {B g n cap : Nat} {e : TypeId} {xs : List Value} (h : w.ownsRow B e 1 (.slice (some ⟨g, 0, none⟩) n cap) n xs) : Row w (some ⟨g, 0, none⟩) xs := by
  obtain ⟨_, _, he, -, -, -, hrow⟩ := own_row h
  simp only [Value.slice.injEq] at he
  rw [← he.1] at hrow
  exact hrow

set_option maxRecDepth 100000 in
set_option maxHeartbeats 4000000 in
theorem alive20_any (w : World) : Calls Try.prog 11 #[] w fun e w' => e = .returned (.bool true) ∧ Ext w w' := by
  have HP := fun (V : World) => Lib.hid (path_1 V)
  have HB := fun (V : World) => Lib.hid (blank_1 V)
  have HS := fun (ao : Option Addr) (cap : Nat) (V : World) (hn0 : ao = none → cap = 0) (hr : Row V ao (bools (blankN 1))) => Lib.hid (sign_1 (blankN 1) ao cap V (blankN_len 1) hn0 hr)
  have HF := fun (ao : Option Addr) (cap : Nat) (V : World) (hc : 441 ≤ cap) (hr : Row V ao (bools (List.replicate 441 false))) => Lib.hid (faults_1 (List.replicate 441 false) ao cap V (by simp) hc hr)
  have HD := fun (ao : Option Addr) (cap : Nat) (V : World) (hr : Row V ao (bools (signN 1 (fmtRes 2 0).1 (blankN 1)))) => Lib.hid (read_1 (signN 1 (fmtRes 2 0).1 (blankN 1)) ao cap V (by rw [signN_len, blankN_len]; rfl) hr)
  have HZ : Hid (bools (List.replicate 441 false) = List.replicate 441 (Value.bool false)) := by show _ = _; simp [bools]
  rw [live_flt] at HF
  rw [live_rd] at HD
  obtain ⟨hl1, hl2, hl3⟩ := live_path
  have HL1 := Lib.hid hl1
  have HL2 := Lib.hid hl2
  have HL3 := Lib.hid hl3
  unfold RetPts at HP
  unfold two at HF
  unfold four at HD
  simp only at HP HF HD
  rw [hl1] at HP
  clear hl1 hl2 hl3
  generalize signN 1 (fmtRes 2 0).1 (blankN 1) = SG at HS HD
  generalize blankN 1 = BL at HB HS
  generalize pathN 1 = PN at HP HL1 HL2 HL3
  generalize bools (List.replicate 441 false) = ZR at HF HZ
  go_enter Try.func11, Try.ntmps11
  go_wp2_with fail
  refine (HP _).out.mono ?_
  rintro e w1 ⟨po, pc, rfl, hp1, hl1, hm1, hx1⟩
  have HP1 := Lib.hid hp1
  have HX1 := Lib.hid hx1
  clear hp1 hx1
  go_wp2_with fail
  refine (HB _).out.mono ?_
  rintro e w2 ⟨g2, c2, rfl, ho2, hc2, hx2⟩
  have HR2 := Lib.hid (row_own ho2)
  have HX2 := Lib.hid hx2
  clear ho2 hx2
  go_wp2_with (at_make; refine wpList_make (ws := w2.alloc (.cells #[.int .i64 21, .int .i64 21, .slice (some ⟨g2, 0, none⟩) 441 c2] 24)) rfl _ _ 22 rfl (w2.alloc (.cells #[.int .i64 21, .int .i64 21, .slice (some ⟨g2, 0, none⟩) 441 c2] 24)).heap.size 4 (.bool false) 1 Try.infoBool' rfl Try.underlying22 _ _ _ _ rfl rfl 441 441 rfl rfl (Nat.le_refl _) (by omega) (by omega) (Below.refl _ _) (Nat.le_refl _) ?_; intro w3 hown3 hbel3 _; rw [World.size_alloc] at hown3; have HR3 := Lib.hid (row_own hown3); have HX3 : Hid (Ext (w2.alloc (.cells #[.int .i64 21, .int .i64 21, .slice (some ⟨g2, 0, none⟩) 441 c2] 24)) w3) := hbel3; clear hown3 hbel3)
  refine (HF _ _ _ (Nat.le_refl _) (by rw [HZ.out]; exact HR3.out)).out.mono ?_
  rintro e w4 ⟨rfl, hx4⟩
  have HX4 := Lib.hid hx4
  obtain ⟨z0, z1, z2⟩ := box3 (HX3.out.trans hx4)
  clear hx4
  go_wp2_with fail
  refine (HS _ _ _ (fun h => by cases h) (HR2.out.ext ((Ext.alloc _ _).trans (HX3.out.trans HX4.out)))).out.mono ?_
  rintro e w5 ⟨g5, c5, rfl, ho5, hx5⟩
  have HR5 := Lib.hid (row_own ho5)
  have HX5 := Lib.hid hx5
  clear ho5 hx5 z0 z1 z2
  go_wp2_with fail
  refine (HD _ _ _ (HR5.out.ext (Ext.alloc _ _))).out.mono ?_
  rintro e w6 ⟨rfl, hx6⟩
  have HX6 : Hid (Ext w1 w6) := HX2.out.trans ((Ext.alloc _ _).trans (HX3.out.trans (HX4.out.trans (HX5.out.trans ((Ext.alloc _ _).trans hx6)))))
  have HP6 := Lib.hid (HP1.out.ext HX6.out)
  obtain ⟨b, off, rfl, p0, p1⟩ := HP6.out 0 _ HL2.out
  obtain ⟨b', off', he, p2, p3⟩ := HP6.out 2 _ HL3.out
  simp only [Option.some.injEq, Addr.mk.injEq, and_true] at he
  obtain ⟨rfl, rfl⟩ := he
  rw [show off + 0 * 2 = off by omega] at p0 p1
  clear hx6
  go_wp2_with fail
  go_ret
  exact ⟨rfl, HX1.out.trans HX6.out⟩

end Go.Proofs.Ytjkpdhcnklgfbaa

namespace Go.Proofs.Ytjkpdhcnklgfbaa
open Go.RowKit Go.Bs Go.ChangeShapes Go.WideShapes Go.ChangeAt Go.Joins Go.Qrv Go.Lay

theorem Try.laidOut : laidOutB Try.prog = true := by kernel_rfl
theorem Try.own : ownKnob Try.prog.godebug = none := by kernel_rfl

set_option maxRecDepth 20000 in
set_option maxHeartbeats 1000000 in
theorem points_any (ao bo : Option Addr) (n ca cb : Nat) (l : List (Nat × Nat)) (w : World) (hl : l.length = n) (hn : n ≤ 1000000) (hp : Pts w ao l) (hq : Pts w bo l) :
    Calls Try.prog 27 #[.slice ao n ca, .slice bo n cb] w fun e w' => e = .returned (.bool true) ∧ Ext w w' := by
  have HP := Lib.hid hp
  have HQ := Lib.hid hq
  have HE : Hid (∀ i, i < n → ∃ p, l[i]? = some p) := fun i hi => ⟨_, List.getElem?_eq_getElem (by omega)⟩
  clear hp hq hl
  go_enter Try.func27, Try.ntmps27
  go_wp2_with fail
  go_loopw [5] (fun ii wr => ∃ i : Nat, i ≤ n ∧ ii = .int .i64 i ∧ Hid (Ext w wr)) (fun ii _ => n - (intOf ii).toNat)
  case atStart => exact ⟨0, Nat.zero_le _, rfl, Ext.refl _⟩
  case round =>
    obtain ⟨i, hi, rfl, HX⟩ := hrel
    by_cases hlt : i < n
    · obtain ⟨p, hp⟩ := HE.out i hlt
      obtain ⟨b, off, rfl, p0, p1⟩ := (HP.out.ext HX.out) i p hp
      obtain ⟨b', off', rfl, q0, q1⟩ := (HQ.out.ext HX.out) i p hp
      obtain ⟨x, y⟩ := p
      simp only at p0 p1 q0 q1
      have hi1 : (i : Int) < (n : Int) := by omega
      clear hp
      go_wp2_with fail
      go_quiet (fail)
      go_wp2_with fail
      refine ⟨⟨i + 1, by omega, by rw [Int.natCast_succ], HX.out.drewN _⟩, by simp [intOf]; omega⟩
    · obtain rfl : i = n := by omega
      go_wp2_with fail
      go_ret
      exact ⟨rfl, HX.out⟩

end Go.Proofs.Ytjkpdhcnklgfbaa

namespace Go.Proofs.Ytjkpdhcnklgfbaa
open Go.RowKit Go.Bs Go.ChangeShapes Go.WideShapes Go.ChangeAt Go.Joins Go.Qrv Go.Lay

theorem Try.cellsBool : Try.prog.cellsOf 4 = 1 := by kernel_rfl
theorem Try.cellsInt : Try.prog.cellsOf 3 = 1 := by kernel_rfl

/-- What Faults returns. -/
def fltRes (W H : Int) (n : Nat) (xs : List Bool) : Int × Int := if mcode W H n = 0 then (fltN (((W - 17) / 4).toNat) xs n, 0) else (0, mcode W H n)
theorem side_ver (v : Nat) : ((((sd v : Nat) : Int) - 17) / 4).toNat = v := by unfold sd; omega
theorem faults_any (W H : Int) (xs : List Bool) (ao : Option Addr) (n cap : Nat) (w : World) (hl : xs.length = n) (hcap : n ≤ cap) (hr : Row w ao (bools xs)) :
    Calls Try.prog 14 #[.agg (matV W H ao n cap)] w fun e w' => e = .returned (two (fltRes W H n xs)) ∧ Ext w w' := by
  by_cases hc : mcode W H n = 0
  · obtain ⟨v, h1, h2, rfl, rfl, rfl⟩ := mcode_ok hc
    rw [show fltRes (sd v) (sd v) (sd v * sd v) xs = (((fltN v xs (sd v * sd v) : Nat) : Int), (0 : Int)) from by unfold fltRes; rw [if_pos hc, side_ver]]
    exact faults_ok v h1 h2 xs ao cap w hl hcap hr
  · rw [show fltRes W H n xs = (0, mcode W H n) from by unfold fltRes; rw [if_neg hc]]
    exact faults_no W H ao n cap w hc
theorem rfaults_any (W H : Int) (xs : List Bool) (ao : Option Addr) (n cap : Nat) (w : World) (hl : xs.length = n) (hcap : n ≤ cap) (hr : Row w ao (bools xs)) :
    Calls Try.prog 15 #[.agg (matV W H ao n cap)] w fun e w' => e = .returned (two (fltRes W H n xs)) ∧ Ext w w' := by
  by_cases hc : mcode W H n = 0
  · obtain ⟨v, h1, h2, rfl, rfl, rfl⟩ := mcode_ok hc
    rw [show fltRes (sd v) (sd v) (sd v * sd v) xs = (((fltN v xs (sd v * sd v) : Nat) : Int), (0 : Int)) from by unfold fltRes; rw [if_pos hc, side_ver]]
    exact rfaults_ok v h1 h2 xs ao cap w hl hcap hr
  · rw [show fltRes W H n xs = (0, mcode W H n) from by unfold fltRes; rw [if_neg hc]]
    exact rfaults_no W H ao n cap w hc

set_option maxRecDepth 20000 in
set_option maxHeartbeats 400000 in
theorem small20_any (W H : Int) (ao : Option Addr) (n cap : Nat) (w : World) :
    Calls Try.prog 10 #[.agg (matV W H ao n cap)] w fun e w' => e = .returned (.bool (decide ((n : Int) ≤ 40000))) ∧ Ext w w' := by
  unfold matV
  go_enter Try.func10, Try.ntmps10
  go_wp2_with fail
  go_ret
  exact ⟨rfl, Ext.alloc _ _⟩

set_option maxRecDepth 20000 in
set_option maxHeartbeats 1000000 in
theorem same_same (W H : Int) (ao bo : Option Addr) (n ca cb : Nat) (xs : List Bool) (w : World) (hx : xs.length = n) (hb : n ≤ 4611686018427387904) (hr : Row w ao (bools xs)) (hs : Row w bo (bools xs)) :
    Calls Try.prog 16 #[.agg (matV W H ao n ca), .agg (matV W H bo n cb)] w fun e w' => e = .returned (.bool true) ∧ Ext w w' :=
  (same20_any W H W H ao bo n ca n cb xs xs w hx hx hb hr hs).mono fun e w' h => by
    obtain ⟨rfl, hx⟩ := h
    exact ⟨by simp, hx⟩


end Go.Proofs.Ytjkpdhcnklgfbaa
