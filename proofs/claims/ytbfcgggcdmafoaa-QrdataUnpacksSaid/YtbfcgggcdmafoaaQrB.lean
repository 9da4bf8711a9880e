/-
  Contracts of the writer's finish and of qrdata.Pad.
  Conditions: the slices' cells are those of the lists; the receiver's block is of the caller's own.
-/
import Derived.Test.YtbfcgggcdmafoaaQrA
import Derived.Test.YtbfcgggcdmafoaaQrPlain
import Derived.Test.YtbfcgggcdmafoaaBitsD
import Derived.Deep.RegionWith
import Derived.Deep.LoopGhost
namespace Go.Proofs.Ytbfcgggcdmafoaa
open Go.RowKit Go.Bs Go.Mode Go.Qr

theorem Buf.ext0 {g : Nat} {tt : TypeId} {w : World} {s : Value} {n : Nat} {xs : List Bool} {rest : List Value} (h : Buf g tt w s n xs rest) : g < w.heap.size := h.lt

/-- What a method returns by a row, the blocks below g as they were. -/
def RetRowB (g : Nat) (w : World) (cs : List Value) (e : Ending) (w' : World) : Prop :=
  ∃ ao cap, e = .returned (.slice ao cs.length cap) ∧ Row w' ao cs ∧ cs.length ≤ cap ∧ cap ≤ 9223372036854775807 ∧ (ao = none → cap = 0) ∧ Below g w w'

set_option maxRecDepth 20000 in
set_option maxHeartbeats 800000 in
theorem finish_any (g : Nat) (tt : TypeId) (s : Value) (n : Nat) (xs : List Bool) (K : Nat) (w : World) (hxn : xs.length = n) (hn : n ≤ 8 * K) (hk : K ≤ 4096) (hb : Buf g tt w s n xs [.int .i64 K]) :
    Calls Try.prog 26 #[.pointer (some ⟨g, 0, none⟩)] w (RetRowB g w (ints (padW xs K))) := by
  have HB := Lib.hid hb
  obtain ⟨M1, hM1⟩ : ∃ M1, M1 = Qr.t1 n K := ⟨_, rfl⟩
  obtain ⟨M2, hM2⟩ : ∃ M2, M2 = Qr.t2 n K := ⟨_, rfl⟩
  have hM1' : M1 = min 4 (8 * K - n) := hM1
  have hM2' : M2 = (8 * K - (n + M1)) % 8 := by rw [hM2, Qr.t2, ← hM1]
  obtain ⟨L1, hL1⟩ : ∃ L1, L1 = 8 * K - n := ⟨_, rfl⟩
  obtain ⟨L2, hL2⟩ : ∃ L2, L2 = 8 * K - (n + M1) := ⟨_, rfl⟩
  have hmin : min (4 : Int) (L1 : Int) = (M1 : Int) := by omega
  have hrem : (L2 : Int).tmod 8 = (M2 : Int) := by rw [Int.tmod_eq_emod_of_nonneg (by omega)]; omega
  have hb1 : n + M1 ≤ 8 * K := by omega
  have hb2 : n + M1 + M2 ≤ 8 * K := by omega
  have hm4 : M1 ≤ 4 := by omega
  have hm8 : M2 ≤ 8 := by omega
  have HM1 := Lib.hid hM1
  have HM2 := Lib.hid hM2
  have HL1 := Lib.hid hL1
  have HL2 := Lib.hid hL2
  have HXN := Lib.hid hxn
  have hgw := hb.lt
  have HLA := fun (W : World) (hB : Buf g tt W s n xs [.int .i64 K]) => Lib.hid (wleft_any g tt s n xs K W hn hk hB)
  simp only [← hL1] at HLA
  clear hM1 hM2 hM1' hM2' hL1 hL2 hb hxn
  go_enter Try.func26, Try.ntmps26
  go_upto_region 1 with fail
  go_region_with (first
    | (go_at_call 42; refine (HLA _ (HB.out.drewN _)).out.mono ?_; rintro e w3 ⟨rfl, m3, hw3⟩)
    | (go_at_call 41; refine (zeros_any g tt s n xs _ M1 _ (by omega) (by omega) (HB.out.drewN _)).mono ?_; rintro e w4 ⟨s4, rfl, hb4, hx4⟩))
  all_goals
    have hbw4 : Below g w w4 := (below_drewN (Below.refl g w) _).trans hx4
    have HB4 := Lib.hid hb4
    have HLB := fun (W : World) (hB : Buf g tt W s4 (n + M1) (xs ++ List.replicate M1 false) [.int .i64 K]) => Lib.hid (wleft_any g tt s4 (n + M1) _ K W hb1 hk hB)
    simp only [← HL2.out] at HLB
    clear hw3 hx4 hb4 HB HLA
    go_upto_region 2 with fail
    go_region_with (first
      | (go_at_call 42; refine (HLB _ (HB4.out.drewN _)).out.mono ?_; rintro e w5 ⟨rfl, m5, hw5⟩)
      | (go_at_call 41; refine (zeros_any g tt s4 (n + M1) _ _ M2 _ (by omega) (by omega) (HB4.out.drewN _)).mono ?_; rintro e w6 ⟨s6, rfl, hb6, hx6⟩))
    all_goals
      have hbw6 : Below g w w6 := hbw4.trans ((below_drewN (Below.refl g w4) _).trans hx6)
      have hbd : n + M1 + M2 = 8 * Qr.nb n K ∧ Qr.nb n K ≤ K := by rw [HM1.out, HM2.out]; exact body8 n K hn
      have HBD : Hid (xs ++ List.replicate M1 false ++ List.replicate M2 false = body xs K) := by show _ = _; unfold body; rw [HXN.out, ← HM1.out, ← HM2.out]
      rw [HBD.out] at hb6
      obtain ⟨Z, hZ⟩ : ∃ Z, Z = Qr.nb n K := ⟨_, rfl⟩
      rw [← hZ] at hbd
      have HZ := Lib.hid hZ
      rw [hbd.1] at hb6
      have hZK := hbd.2
      clear hbd hZ HBD hw5 hx6 HB4 HLB hbw4 hrem hmin HM1 HM2 HL1 HL2 hb1 hb2 hm4 hm8
      go_wp2_with fail
      go_loopg [3] (K - Z) (fun k p wr => ∃ (j : Nat) (sj : Value), j + k = K - Z ∧ p = .int .i64 (padNum j) ∧ Buf g tt wr sj (8 * (Z + j)) (body xs K ++ padsB j) [.int .i64 K] ∧ Hid (Below g w wr))
      case atStart => exact ⟨0, s6, by omega, rfl, by simpa [padsB] using hb6, hbw6⟩
      case round =>
        obtain ⟨j, sj, hj, rfl, hbj, HBW⟩ := hrel
        have HBJ := Lib.hid hbj
        have HLC := Lib.hid (wleft_any g tt sj _ _ K wr (by omega) hk hbj)
        by_cases hlt : j < K - Z
        · have hpos : 0 < 8 * K - 8 * (Z + j) := by omega
          obtain ⟨L, hL⟩ : ∃ L, L = 8 * K - 8 * (Z + j) := ⟨_, rfl⟩
          rw [← hL] at HLC hpos
          clear hL hbj
          have hpb := padNum_bd j
          have HPS := Lib.hid (padNum_succ j)
          obtain ⟨P, hP⟩ : ∃ P, P = padNum j := ⟨_, rfl⟩
          have HP := Lib.hid hP
          rw [← hP] at hpb HPS ⊢
          clear hP
          go_wp2_with fail
          refine HLC.out.mono ?_
          rintro e w7 ⟨rfl, m7, rfl⟩
          go_wp2_with fail
          refine (number_any' g tt sj _ _ _ P 8 _ (by omega) (by omega) (HBJ.out.drewN _)).mono ?_
          rintro e w8 ⟨s8, rfl, hb8, hx8⟩
          have hbw8 : Below g w w8 := HBW.out.trans ((below_drewN (Below.refl g wr) _).trans hx8)
          have HB8 : Hid (Buf g tt w8 s8 (8 * (Z + (j + 1))) (body xs K ++ padsB (j + 1)) [.int .i64 K]) := by
            show Buf _ _ _ _ _ _ _
            rw [padsB_succ, ← HP.out, ← List.append_assoc, show 8 * (Z + (j + 1)) = 8 * (Z + j) + 8 by omega]
            exact hb8
          clear hb8
          go_wp2_with fail
          go_roundg (gk - 1)
          case rel => exact ⟨j + 1, s8, by omega, int_eq (by rw [HPS.out]), HB8.out, hbw8⟩
          case measure => omega
        · obtain rfl : j = K - Z := by omega
          have HFULL : Hid (body xs K ++ padsB (K - Z) = full xs K) := by show _ = _; unfold full; rw [HXN.out, ← HZ.out]
          have HWR := Lib.hid (wordsRes_full xs K (by rw [HXN.out]; exact hn))
          have HLF := Lib.hid (length_full xs K (by rw [HXN.out]; exact hn))
          rw [HFULL.out] at hbj
          have e8 : 8 * (Z + (K - Z)) = 8 * K := by omega
          rw [e8] at hbj HLC
          rw [Nat.sub_self] at HLC
          clear e8 HBJ HFULL hlt
          obtain ⟨so, sc, rfl, hso, hsm, _, hsr⟩ := own_row hbj.2
          have z0 := hbj.cell0
          have HN0 : Hid (so = none → sc = 0) := by
            intro ha
            subst ha
            rcases hbj.2.2 with ⟨hv, _⟩ | ⟨g', cap', cur, hv, _⟩
            · simp at hv; exact hv.2
            · simp at hv
          clear hbj
          go_wp2_with fail
          refine HLC.out.mono ?_
          rintro e w7 ⟨rfl, m7, rfl⟩
          go_wp2_with fail
          refine (words_any so (8 * K) sc (full xs K) 8 false _ HLF.out hso (by omega) (hsr.ext ((Ext.refl wr).drewN _))).mono ?_
          rw [HWR.out]
          rintro e w8 hret
          obtain ⟨ro, rc, rfl, hr8, hc8, hm8, hn8, hx8⟩ := hret.ints
          clear hret
          have HW8 : Hid (Below g w w8) := HBW.out.trans ((below_drewN (Below.refl g wr) _).trans (Below.mono hx8 (by have := (HBW.out.size); exact Nat.le_trans (Nat.le_of_lt hgw) (Nat.le_trans HBW.out.size (Below.size ((Ext.refl wr).drewN m7))))))
          go_wp2_with fail
          go_ret
          exact ⟨ro, rc, by rw [length_ints]; rfl, hr8, by rw [length_ints]; exact hc8, hm8, hn8, HW8.out⟩

theorem padRes_1 {xs : List Bool} {n : Int} (h : n < 0 ∨ 4096 < n) : padRes xs n = ([], 3) := by unfold padRes; rw [if_pos h]
theorem padRes_2 {xs : List Bool} {K : Nat} (h : K ≤ 4096) (h2 : 8 * K < xs.length) : padRes xs K = ([], 16) := by unfold padRes; rw [if_neg (by omega), if_pos (by omega)]
theorem padRes_3 {xs : List Bool} {K : Nat} (h : K ≤ 4096) (h2 : xs.length ≤ 8 * K) : padRes xs K = (padW xs K, 0) := by unfold padRes; rw [if_neg (by omega), if_neg (by omega)]; rfl

set_option maxRecDepth 20000 in
set_option maxHeartbeats 800000 in
theorem pad_any (ao : Option Addr) (len cap : Nat) (xs : List Bool) (n : Int) (w : World) (hl : xs.length = len) (hcap : len ≤ cap) (hmax : cap ≤ 9223372036854775807) (hno : ao = none → cap = 0) (hr : Row w ao (bools xs)) :
    Calls Try.prog 13 #[.slice ao len cap, .int .i64 n] w (RetSl w (ints (padRes xs n).1, (padRes xs n).2)) := by
  have hcase : n < 0 ∨ (0 ≤ n ∧ 4096 < n) ∨ ∃ K : Nat, n = K ∧ K ≤ 4096 := by
    by_cases h : n < 0
    · exact Or.inl h
    · by_cases h2 : 4096 < n
      · exact Or.inr (Or.inl ⟨by omega, h2⟩)
      · exact Or.inr (Or.inr ⟨n.toNat, by omega, by omega⟩)
  have HL := Lib.hid hl
  rcases hcase with h | ⟨h, h'⟩ | ⟨K, rfl, hK⟩
  · rw [padRes_1 (Or.inl h)]
    clear hl
    go_enter Try.func13, Try.ntmps13
    go_wp2_with fail
    go_ret2
    exact RetSl.nil _ _ _ (Ext.refl _)
  · rw [padRes_1 (Or.inr h')]
    clear hl
    go_enter Try.func13, Try.ntmps13
    go_wp2_with fail
    go_ret2
    exact RetSl.nil _ _ _ (Ext.refl _)
  · by_cases hbig : 8 * K < len
    · rw [padRes_2 hK (by omega)]
      clear hl
      go_enter Try.func13, Try.ntmps13
      go_wp2_with fail
      go_ret2
      exact RetSl.nil _ _ _ (Ext.refl _)
    · rw [padRes_3 hK (by omega)]
      clear hl
      have hle : len ≤ 8 * K := by omega
      have HB0 : Hid (Buf w.heap.size 57 (w.alloc (.cells #[.slice none 0 0, .int .i64 K] 57)) (.slice none 0 0) 0 [] [.int .i64 K]) := ⟨heap_alloc_new _ _, World.ownsRow_nil _ _ _ _⟩
      go_enter Try.func13, Try.ntmps13
      go_wp2_with fail
      refine (all_any w.heap.size 57 _ 0 [] [.int .i64 K] ao len cap xs _ HL.out (by omega) (by omega) (hr.ext (Ext.alloc _ _)) hno HB0.out).mono ?_
      rintro e w1 ⟨s1, rfl, hb1, hx1⟩
      rw [Nat.zero_add, List.nil_append] at hb1
      have HX1 : Hid (Ext w w1) := (Below.mono (Ext.alloc w _) (Nat.le_refl _)).trans hx1
      go_wp2_with fail
      refine (finish_any w.heap.size 57 s1 len xs K w1 HL.out hle hK hb1).mono ?_
      rintro e w2 ⟨ro, rc, rfl, hr2, hc2, hm2, hn2, hx2⟩
      clear hb1
      go_wp2_with fail
      go_ret2
      exact ⟨ro, rc, rfl, hr2, hc2, hm2, hn2, Below.trans HX1.out hx2⟩

end Go.Proofs.Ytbfcgggcdmafoaa
