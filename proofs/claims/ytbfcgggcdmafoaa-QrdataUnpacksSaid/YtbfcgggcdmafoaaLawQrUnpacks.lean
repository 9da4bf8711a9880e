/-
  For every input QrdataUnpacks returns true, and each argument reads afterwards as it read before (Rows.QrdataUnpacksSaid). Before it: the contract of the reference's Unpack.
  No condition.
-/
import Derived.Test.YtbfcgggcdmafoaaQrK
import Derived.Test.YtbfcgggcdmafoaaQrBase
import Derived.Test.YtbfcgggcdmafoaaModeQ
import Derived.Deep.RegionHeld3
namespace Go.Proofs.Ytbfcgggcdmafoaa
open Go.RowKit Go.Bs Go.Mode Go.Qr



theorem okw8 (x : Int) : okw 8 x = true ↔ 0 ≤ x ∧ x ≤ 255 := by unfold okw; simp; omega

set_option maxRecDepth 20000 in
set_option maxHeartbeats 1600000 in
theorem runpack_msg (ao : Option Addr) (len cap : Nat) (l : List Int) (v : Int) (w : World) (hl : l.length = len) (hcap : len ≤ cap) (_ : cap ≤ 9223372036854775807) (hr : Row w ao (ints l)) :
    Calls Try.prog 20 #[.slice ao len cap, .int .i64 v] w (UnpPost w (unpRes l v)) := by
  have HL := Lib.hid hl
  have hge : len ≤ l.length := by omega
  have hle : l.length ≤ len := by omega
  clear hl
  obtain ⟨R, hR⟩ : ∃ R, R = unpRes l v := ⟨_, rfl⟩
  have HR := Lib.hid hR
  rw [← hR]
  clear hR
  obtain ⟨W0, hW0⟩ : ∃ W0, W0 = w.alloc (.cells #[.slice none 0 0, .int .i64 0, .int .i64 0, .int .i64 0] 38) := ⟨_, rfl⟩
  have HG : Hid (W0.heap[w.heap.size]? = some (.cells #[.slice none 0 0, .int .i64 0, .int .i64 0, .int .i64 0] 38 (0, 0))) := by rw [hW0]; exact heap_alloc_new _ _
  have HX0 : Hid (Ext w W0) := by rw [hW0]; exact Ext.alloc _ _
  have HW0 := Lib.hid hW0
  clear hW0
  by_cases hv : 1 ≤ v ∧ v ≤ 40
  case neg =>
    have HR1 : Hid (R = ([], (0, 0, 0), 14)) := HR.out.trans (up_1 (K := 0) (by unfold clRes; rw [if_pos (by omega)]) (by decide))
    have hv' : v < 1 ∨ (1 ≤ v ∧ 40 < v) := by omega
    clear hv
    rw [HW0.out] at HG HX0
    rcases hv' with h | ⟨h, h'⟩
    · go_enter Try.func20, Try.ntmps20
      go_wp2_with ((with_reducible show wpList _ _ _ (⟨none, .store 38 _ _, _, _, _, _⟩ :: _) _ _); refine wpList_storeOwn rfl 38 _ _ rfl w.heap.size _ rfl rfl 38 _ HG.out (by kernel_rfl) (by kernel_rfl) (by kernel_rfl) w HX0.out (Nat.le_refl _) ?_; intro wE HXE HGE)
      rw [HR1.out]
      exact bodyPost_ret (results_cellSlot rfl _ wE w.heap.size 38 _ (0, 0) _ rfl HGE.out Try.underlying38 rfl (by kernel_rfl)) rfl ⟨none, 0, rfl, Segs.nil _ _, Nat.le_refl _, by decide, HXE⟩
    · go_enter Try.func20, Try.ntmps20
      go_wp2_with ((with_reducible show wpList _ _ _ (⟨none, .store 38 _ _, _, _, _, _⟩ :: _) _ _); refine wpList_storeOwn rfl 38 _ _ rfl w.heap.size _ rfl rfl 38 _ HG.out (by kernel_rfl) (by kernel_rfl) (by kernel_rfl) w HX0.out (Nat.le_refl _) ?_; intro wE HXE HGE)
      rw [HR1.out]
      exact bodyPost_ret (results_cellSlot rfl _ wE w.heap.size 38 _ (0, 0) _ rfl HGE.out Try.underlying38 rfl (by kernel_rfl)) rfl ⟨none, 0, rfl, Segs.nil _ _, Nat.le_refl _, by decide, HXE⟩
  case pos =>
    obtain ⟨K, hcl⟩ : ∃ K, clRes v = (K, 0) := ⟨(clRes v).1, by
      unfold clRes
      rw [if_neg (by omega)]
      split
      · rfl
      · split <;> rfl⟩
    have HCL := Lib.hid hcl
    obtain ⟨hv1, hv2⟩ := hv
    clear hcl
    by_cases h4 : 4096 < len
    · have HR1 := Lib.hid (HR.out.trans (up_2 HCL.out (by omega)))
      rw [HW0.out] at HG HX0
      go_enter Try.func20, Try.ntmps20
      go_wp2_with ((with_reducible show wpList _ _ _ (⟨none, .store 38 _ _, _, _, _, _⟩ :: _) _ _); refine wpList_storeOwn rfl 38 _ _ rfl w.heap.size _ rfl rfl 38 _ HG.out (by kernel_rfl) (by kernel_rfl) (by kernel_rfl) w HX0.out (Nat.le_refl _) ?_; intro wE HXE HGE)
      rw [HR1.out]
      exact bodyPost_ret (results_cellSlot rfl _ wE w.heap.size 38 _ (0, 0) _ rfl HGE.out Try.underlying38 rfl (by kernel_rfl)) rfl ⟨none, 0, rfl, Segs.nil _ _, Nat.le_refl _, by decide, HXE⟩
    · have hl4 : len ≤ 4096 := by omega
      clear h4
      go_enter Try.func20, Try.ntmps20
      go_wp2_with fail
      rw [← HW0.out]
      have HSW : Hid (w.heap.size < W0.heap.size) := (Array.getElem?_eq_some_iff.1 HG.out).1
      go_loopw [6, 7] (fun s i wr => ∃ j : Nat, j ≤ len ∧ i = .int .i64 j ∧ Hid ((l.take j).all (okw 8) = true) ∧ wr.ownsRow W0.heap.size 4 1 s (8 * j) (bools (fromTo l 8 j)) ∧ Hid (Ext W0 wr)) (fun _ i _ => len - (intOf i).toNat)
      case atStart => exact ⟨0, Nat.zero_le _, rfl, rfl, World.ownsRow_nil _ _ _ _, Ext.refl _⟩
      case round =>
        obtain ⟨j, hj, rfl, HJ, hown, HXJ⟩ := hrel
        have HGJ := Lib.hid (HXJ.out.old HG.out)
        have HXwJ := Lib.hid (HX0.out.trans HXJ.out)
        by_cases hlt : j < len
        · obtain ⟨a, rfl, hc⟩ := (hr.ext HXwJ.out).at (Go.Bs.ints_at l j (by omega))
          by_cases hx : 0 ≤ (l[j]'(by omega)) ∧ (l[j]'(by omega)) ≤ 255
          · have HJ2 : Hid ((l.take (j + 1)).all (okw 8) = true) := all_take_succ (okw 8) l j (by omega) HJ.out ((okw8 _).2 hx)
            have HFS := Lib.hid (fromTo_succ l 8 j (by omega))
            obtain ⟨hx1, hx2⟩ := hx
            obtain ⟨X, hX⟩ : ∃ X, X = (l[j]'(by omega)) := ⟨_, rfl⟩
            rw [← hX] at hx1 hx2 hc HFS
            clear hX
            go_wp2_with fail
            refine (rnumber_any X 8 _ hx1 (by omega) (by omega)).mono ?_
            rintro e w2 ⟨s2, rfl, hown2, hx2'⟩
            obtain ⟨so, sc, rfl, hso, hsm, _, hsr⟩ := own_row hown2
            rw [length_bools, length_lowBits] at hso ⊢
            have HN2 := Lib.hid (own_nil' hown2)
            have HSR := Lib.hid hsr
            have hown' := own_extN hown hx2'
            have HX2 := Lib.hid (HXJ.out.trans hx2')
            have hB2 := HX2.out.size
            clear hown2 hsr hx2' hown
            go_wp2_with (at_builtin; refine wpList_app rfl _ _ 24 rfl W0.heap.size 4 (.bool false) 1 1 Try.infoBool rfl (by decide) Try.underlying24 _ rfl _ _ hown' _ 8 sc rfl (bools (lowBits X 8)) HSR.out (by rw [length_bools, length_lowBits]) HN2.out (bools_oneCell _) (by omega) (by omega) hB2 ?_; intro s3 w3 hown3 hk3)
            rw [← bools_append, ← HFS.out] at hown3
            have HX3 : Hid (Ext W0 w3) := Below.trans HX2.out (hk3.below hB2 (fun k hk => (hown'.lt k hk).1))
            have hown4 : w3.ownsRow W0.heap.size 4 1 s3 (8 * (j + 1)) (bools (fromTo l 8 (j + 1))) := by rw [show 8 * (j + 1) = 8 * j + 8 by omega]; exact hown3
            clear hown3 hk3 hown'
            go_roundw
            case rel => exact ⟨j + 1, by omega, int_eq (by omega), HJ2, hown4, HX3⟩
            case measure => simp [intOf]; omega
          · have hbad : l.all (okw 8) = false := all_at (okw 8) l j (by omega) (by cases h : okw 8 (l[j]'(by omega)); rfl; exact absurd ((okw8 _).1 h) hx)
            have HR1 := Lib.hid (HR.out.trans (up_3 HCL.out (by omega) hbad))
            have hx' : (l[j]'(by omega)) < 0 ∨ (0 ≤ (l[j]'(by omega)) ∧ 255 < (l[j]'(by omega))) := by omega
            clear hx hbad
            rcases hx' with hx1 | ⟨hx1, hx2⟩
            · skip
              go_wp2_with ((with_reducible show wpList _ _ _ (⟨none, .store 38 _ _, _, _, _, _⟩ :: _) _ _); refine wpList_storeOwn rfl 38 _ _ rfl w.heap.size _ rfl rfl 38 _ HGJ.out (by kernel_rfl) (by kernel_rfl) (by kernel_rfl) w HXwJ.out (Nat.le_refl _) ?_; intro wE HXE HGE)
              rw [HR1.out]
              exact bodyPost_ret (results_cellSlot rfl _ wE w.heap.size 38 _ (0, 0) _ rfl HGE.out Try.underlying38 rfl (by kernel_rfl)) rfl ⟨none, 0, rfl, Segs.nil _ _, Nat.le_refl _, by decide, HXE⟩
            · skip
              go_wp2_with ((with_reducible show wpList _ _ _ (⟨none, .store 38 _ _, _, _, _, _⟩ :: _) _ _); refine wpList_storeOwn rfl 38 _ _ rfl w.heap.size _ rfl rfl 38 _ HGJ.out (by kernel_rfl) (by kernel_rfl) (by kernel_rfl) w HXwJ.out (Nat.le_refl _) ?_; intro wE HXE HGE)
              rw [HR1.out]
              exact bodyPost_ret (results_cellSlot rfl _ wE w.heap.size 38 _ (0, 0) _ rfl HGE.out Try.underlying38 rfl (by kernel_rfl)) rfl ⟨none, 0, rfl, Segs.nil _ _, Nat.le_refl _, by decide, HXE⟩
        · obtain rfl : j = len := by omega
          have hall : l.all (okw 8) = true := by have := HJ.out; rwa [List.take_of_length_le (by omega)] at this
          have HR1 := Lib.hid (HR.out.trans (up_4 HCL.out (by omega) hall))
          rw [HL.out] at HR1
          have HBL : Hid ((fromTo l 8 j).length = 8 * j) := by show _ = _; rw [length_fromTo l 8 j (by omega)]; omega
          clear hall HJ
          obtain ⟨B, hB⟩ : ∃ B, B = fromTo l 8 j := ⟨_, rfl⟩
          rw [← hB] at HR1 HBL hown
          clear hB
          obtain ⟨bo, bc, rfl, hc1, hm1, _, hr1⟩ := own_row hown
          have hm1' : bc ≤ 9223372036854775807 := by unfold maxLen at hm1; omega
          have HN1 := Lib.hid (own_nil' hown)
          have HB1 := Lib.hid hr1
          have HBB : Hid (∀ a, bo = some a → 0 < 8 * j → a.block < wr.heap.size) := by
            intro a ha h0
            subst ha
            exact (hown.lt a.block rfl).2
          clear hr1 hown hm1
          obtain ⟨W1, hW1⟩ : ∃ W1, W1 = wr.alloc (.cells #[.slice none 0 0, .int .i64 0, .int .i64 0, .int .i64 0] 38) := ⟨_, rfl⟩
          have HX2 : Hid (Ext wr W1) := by rw [hW1]; exact Ext.alloc _ _
          have HGB : Hid (W1.heap[wr.heap.size]? = some (.cells #[.slice none 0 0, .int .i64 0, .int .i64 0, .int .i64 0] 38 (0, 0))) := by rw [hW1]; exact heap_alloc_new _ _
          have HG2 := Lib.hid (HX2.out.old HGJ.out)
          have HB2 := Lib.hid (HB1.out.ext HX2.out)
          have HXW := Lib.hid (HXwJ.out.trans HX2.out)
          have HSG : Hid (w.heap.size < wr.heap.size) := (Array.getElem?_eq_some_iff.1 HGJ.out).1
          have HW1 := Lib.hid hW1
          clear hW1 HGJ
          by_cases hj4 : 8 * j < 4
          · have HHD : Hid (¬ (4 ≤ B.length ∧ num (B.take 4) = 3)) := by show ¬ _; rw [HBL.out]; omega
            obtain ⟨ld, E, hde⟩ : ∃ ld E, decRes B K = (ld, E) := ⟨_, _, rfl⟩
            have HDE := Lib.hid hde
            clear hde
            have HRE : Hid (E ≠ 0 → R = ([], (0, 0, 0), E)) := fun h => HR1.out.trans (ub_5 HHD.out HDE.out h)
            have HRO : Hid (E = 0 → R = (ld, (0, 0, 0), 0)) := fun h => HR1.out.trans (ub_6 HHD.out (by rw [HDE.out, h]))
            go_wp2_with fail
            rw [← HW1.out]
            obtain ⟨g1, hg1⟩ : ∃ g1, g1 = wr.heap.size := ⟨_, rfl⟩
            rw [← hg1] at HGB HBB HSG ⊢
            clear hg1
            refine (rclass_any v _).mono ?_
            rw [HCL.out]
            rintro e w' ⟨rfl, rfl⟩
            simp only [two]
            go_wp2_with fail
            refine (rdecode_any bo (8 * j) bc B K W1 HBL.out (by omega) HB2.out).mono ?_
            rw [HDE.out]
            rintro e wD ⟨so, sc, rfl, hsD, hcD, hmD, hxD⟩
            simp only at hsD hcD ⊢
            have HGBD := Lib.hid (hxD.old HGB.out)
            have HGD := Lib.hid (hxD.old HG2.out)
            have HXD := Lib.hid ((HXW.out).trans hxD)
            have HSD := Lib.hid hsD
            clear hsD hxD
            by_cases hE0 : E = 0
            case neg =>
              have HR9 := Lib.hid (HRE.out hE0)
              have hne9 : (E != 0) = true := by simp [hE0]
              clear hE0
              go_wp2_with ((with_reducible show wpList _ _ _ (⟨none, .store 38 _ _, _, _, _, _⟩ :: _) _ _); refine wpList_storeOwn rfl 38 _ _ rfl w.heap.size _ rfl rfl 38 _ HGD.out (by kernel_rfl) (by kernel_rfl) (by kernel_rfl) w HXD.out (Nat.le_refl _) ?_; intro wE HXE HGE)
              rw [HR9.out]
              exact bodyPost_ret (results_cellSlot rfl _ wE w.heap.size 38 _ (0, 0) _ rfl HGE.out Try.underlying38 rfl (by kernel_rfl)) rfl ⟨none, 0, rfl, Segs.nil _ _, Nat.le_refl _, by decide, HXE⟩
            case pos =>
              have HR9 := Lib.hid (HRO.out hE0)
              subst hE0
              have c0 : wD.cell? ⟨g1, 0, none⟩ = some (.slice none 0 0) := by rw [cell_of_row _ _ _ _ _ _ HGBD.out]; rfl
              have fz : wD.frozen? ⟨g1, 0, none⟩ = false := frozen_of_row _ _ 0 _ _ HGBD.out
              have HGE1 : Hid ((wD.setCell ⟨g1, 0, none⟩ (.slice so ld.length sc)).heap[w.heap.size]? = some (.cells #[.slice none 0 0, .int .i64 0, .int .i64 0, .int .i64 0] 38 (0, 0))) :=
                (Below.heap_setCell _ _ _ _ (by have := HSG.out; simp only; omega)).trans HGD.out
              have HXE1 : Hid (Ext w (wD.setCell ⟨g1, 0, none⟩ (.slice so ld.length sc))) := HXD.out.set (Nat.le_of_lt HSG.out) _ _
              have HRE1 : Hid (Row (wD.setCell ⟨g1, 0, none⟩ (.slice so ld.length sc)) (some ⟨g1, 0, none⟩) [.slice so ld.length sc, .int .i64 (0 : Int), .int .i64 (0 : Int), .int .i64 (0 : Int)]) :=
                row_heap (heap_setS wD g1 _ (.slice so ld.length sc) [.int .i64 (0 : Int), .int .i64 (0 : Int), .int .i64 (0 : Int)] _ HGBD.out)
              have HSE1 : Hid (SegsN (wD.setCell ⟨g1, 0, none⟩ (.slice so ld.length sc)) (W1).heap.size so ld) :=
                HSD.out.kept (fun k hk _ => Below.heap_setCell _ _ _ _ (by have : g1 < (W1).heap.size := (Array.getElem?_eq_some_iff.1 HGB.out).1; simp only; omega))
              have HGW : Hid (w.heap.size < (W1).heap.size) := (Array.getElem?_eq_some_iff.1 HG2.out).1
              have HON : Hid (([.slice so ld.length sc, .int .i64 (0 : Int), .int .i64 (0 : Int), .int .i64 (0 : Int)] : List Value).toArray.all (·.oneCell') = true) := by show _ = _; simp [Value.oneCell']
              go_wp2_with (first | ((with_reducible show wpList _ _ _ (⟨some 109, _, _, _, _, _⟩ :: _) _ _); refine wpList_loadAgg rfl 38 _ rfl _ Try.underlying38 rfl _ rfl [.slice so ld.length sc, .int .i64 (0 : Int), .int .i64 (0 : Int), .int .i64 (0 : Int)] HRE1.out (by kernel_rfl) ?_) | ((with_reducible show wpList _ _ _ (⟨none, .store 38 _ _, _, _, _, _⟩ :: _) _ _); refine wpList_storeOwnK rfl 38 _ _ rfl w.heap.size _ rfl rfl 38 _ HGE1.out Try.sizeMsg (by rfl) HON.out w HXE1.out (Nat.le_refl _) ?_; intro wE HXE HGE HKE))
              rw [HR9.out]
              exact bodyPost_ret (results_cellSlot rfl _ wE w.heap.size 38 _ (0, 0) _ rfl HGE.out Try.underlying38 rfl (by kernel_rfl)) rfl ⟨so, sc, rfl, (HSE1.out.kept (fun k hk _ => HKE.out k (by have := HGW.out; omega))).segs, hcD, hmD, HXE⟩
          · have HRV4 : Hid (Row W1 bo (bools (B.take 4))) := by
              have := HB2.out.cut 0 4 (ao' := bo) (fun _ _ => by cases bo <;> simp [Addr.add])
              show Row _ _ _
              rw [List.drop_zero] at this
              have e : bools (B.take 4) = (bools B).take 4 := by simp [bools]
              rw [e]; exact this
            have HL4 : Hid ((B.take 4).length = 4) := by show _ = _; rw [List.length_take, HBL.out]; omega
            have HVA := Lib.hid (rvalue_any bo 4 bc (B.take 4) W1 HL4.out (by omega) HRV4.out)
            rw [HW1.out] at HVA
            go_wp2_with fail
            refine HVA.out.mono ?_
            rintro e w' ⟨rfl, rfl⟩
            rw [← HW1.out]
            obtain ⟨g1, hg1⟩ : ∃ g1, g1 = wr.heap.size := ⟨_, rfl⟩
            rw [← hg1] at HGB HBB HSG ⊢
            have HGG : Hid (wr.heap.size ≤ g1) := by rw [hg1]; exact Nat.le_refl _
            clear hg1 HVA HRV4 HL4
            by_cases h3 : num (B.take 4) = 3
            case neg =>
              have HHD : Hid (¬ (4 ≤ B.length ∧ num (B.take 4) = 3)) := fun h => h3 h.2
              obtain ⟨ld, E, hde⟩ : ∃ ld E, decRes B K = (ld, E) := ⟨_, _, rfl⟩
              have HDE := Lib.hid hde
              clear hde
              have HRE : Hid (E ≠ 0 → R = ([], (0, 0, 0), E)) := fun h => HR1.out.trans (ub_5 HHD.out HDE.out h)
              have HRO : Hid (E = 0 → R = (ld, (0, 0, 0), 0)) := fun h => HR1.out.trans (ub_6 HHD.out (by rw [HDE.out, h]))
              have hn3 : (num (B.take 4) == 3) = false := by simp [h3]
              clear h3
              go_wp2_with fail
              refine (rclass_any v _).mono ?_
              rw [HCL.out]
              rintro e w' ⟨rfl, rfl⟩
              simp only [two]
              go_wp2_with fail
              refine (rdecode_any bo (8 * j) bc B K W1 HBL.out (by omega) HB2.out).mono ?_
              rw [HDE.out]
              rintro e wD ⟨so, sc, rfl, hsD, hcD, hmD, hxD⟩
              simp only at hsD hcD ⊢
              have HGBD := Lib.hid (hxD.old HGB.out)
              have HGD := Lib.hid (hxD.old HG2.out)
              have HXD := Lib.hid ((HXW.out).trans hxD)
              have HSD := Lib.hid hsD
              clear hsD hxD
              by_cases hE0 : E = 0
              case neg =>
                have HR9 := Lib.hid (HRE.out hE0)
                have hne9 : (E != 0) = true := by simp [hE0]
                clear hE0
                go_wp2_with ((with_reducible show wpList _ _ _ (⟨none, .store 38 _ _, _, _, _, _⟩ :: _) _ _); refine wpList_storeOwn rfl 38 _ _ rfl w.heap.size _ rfl rfl 38 _ HGD.out (by kernel_rfl) (by kernel_rfl) (by kernel_rfl) w HXD.out (Nat.le_refl _) ?_; intro wE HXE HGE)
                rw [HR9.out]
                exact bodyPost_ret (results_cellSlot rfl _ wE w.heap.size 38 _ (0, 0) _ rfl HGE.out Try.underlying38 rfl (by kernel_rfl)) rfl ⟨none, 0, rfl, Segs.nil _ _, Nat.le_refl _, by decide, HXE⟩
              case pos =>
                have HR9 := Lib.hid (HRO.out hE0)
                subst hE0
                have c0 : wD.cell? ⟨g1, 0, none⟩ = some (.slice none 0 0) := by rw [cell_of_row _ _ _ _ _ _ HGBD.out]; rfl
                have fz : wD.frozen? ⟨g1, 0, none⟩ = false := frozen_of_row _ _ 0 _ _ HGBD.out
                have HGE1 : Hid ((wD.setCell ⟨g1, 0, none⟩ (.slice so ld.length sc)).heap[w.heap.size]? = some (.cells #[.slice none 0 0, .int .i64 0, .int .i64 0, .int .i64 0] 38 (0, 0))) :=
                  (Below.heap_setCell _ _ _ _ (by have := HSG.out; simp only; omega)).trans HGD.out
                have HXE1 : Hid (Ext w (wD.setCell ⟨g1, 0, none⟩ (.slice so ld.length sc))) := HXD.out.set (Nat.le_of_lt HSG.out) _ _
                have HRE1 : Hid (Row (wD.setCell ⟨g1, 0, none⟩ (.slice so ld.length sc)) (some ⟨g1, 0, none⟩) [.slice so ld.length sc, .int .i64 (0 : Int), .int .i64 (0 : Int), .int .i64 (0 : Int)]) :=
                  row_heap (heap_setS wD g1 _ (.slice so ld.length sc) [.int .i64 (0 : Int), .int .i64 (0 : Int), .int .i64 (0 : Int)] _ HGBD.out)
                have HSE1 : Hid (SegsN (wD.setCell ⟨g1, 0, none⟩ (.slice so ld.length sc)) (W1).heap.size so ld) :=
                  HSD.out.kept (fun k hk _ => Below.heap_setCell _ _ _ _ (by have : g1 < (W1).heap.size := (Array.getElem?_eq_some_iff.1 HGB.out).1; simp only; omega))
                have HGW : Hid (w.heap.size < (W1).heap.size) := (Array.getElem?_eq_some_iff.1 HG2.out).1
                have HON : Hid (([.slice so ld.length sc, .int .i64 (0 : Int), .int .i64 (0 : Int), .int .i64 (0 : Int)] : List Value).toArray.all (·.oneCell') = true) := by show _ = _; simp [Value.oneCell']
                go_wp2_with (first | ((with_reducible show wpList _ _ _ (⟨some 109, _, _, _, _, _⟩ :: _) _ _); refine wpList_loadAgg rfl 38 _ rfl _ Try.underlying38 rfl _ rfl [.slice so ld.length sc, .int .i64 (0 : Int), .int .i64 (0 : Int), .int .i64 (0 : Int)] HRE1.out (by kernel_rfl) ?_) | ((with_reducible show wpList _ _ _ (⟨none, .store 38 _ _, _, _, _, _⟩ :: _) _ _); refine wpList_storeOwnK rfl 38 _ _ rfl w.heap.size _ rfl rfl 38 _ HGE1.out Try.sizeMsg (by rfl) HON.out w HXE1.out (Nat.le_refl _) ?_; intro wE HXE HGE HKE))
                rw [HR9.out]
                exact bodyPost_ret (results_cellSlot rfl _ wE w.heap.size 38 _ (0, 0) _ rfl HGE.out Try.underlying38 rfl (by kernel_rfl)) rfl ⟨so, sc, rfl, (HSE1.out.kept (fun k hk _ => HKE.out k (by have := HGW.out; omega))).segs, hcD, hmD, HXE⟩
            case pos =>
              have HHD : Hid (4 ≤ B.length ∧ num (B.take 4) = 3) := ⟨by rw [HBL.out]; omega, h3⟩
              by_cases h20 : 8 * j < 20
              · have HR2 := Lib.hid (HR1.out.trans (ub_1 HHD.out (by rw [HBL.out]; exact h20)))
                go_wp2_with ((with_reducible show wpList _ _ _ (⟨none, .store 38 _ _, _, _, _, _⟩ :: _) _ _); refine wpList_storeOwn rfl 38 _ _ rfl w.heap.size _ rfl rfl 38 _ HG2.out (by kernel_rfl) (by kernel_rfl) (by kernel_rfl) w HXW.out (Nat.le_refl _) ?_; intro wE HXE HGE)
                rw [HR2.out]
                exact bodyPost_ret (results_cellSlot rfl _ wE w.heap.size 38 _ (0, 0) _ rfl HGE.out Try.underlying38 rfl (by kernel_rfl)) rfl ⟨none, 0, rfl, Segs.nil _ _, Nat.le_refl _, by decide, HXE⟩
              · have H20 : Hid (¬ B.length < 20) := by show ¬ _; rw [HBL.out]; exact h20
                have hti := num_small (B.drop 8) 4 (by omega)
                have HRB : Hid (hdT B = 1 ∨ hdT B ≤ hdI B → R = ([], (0, 0, 0), 9)) := fun h => HR1.out.trans (ub_2 HHD.out H20.out h)
                obtain ⟨ld, E, hde⟩ : ∃ ld E, decRes (B.drop 20) K = (ld, E) := ⟨_, _, rfl⟩
                have HDE := Lib.hid hde
                clear hde
                have HRE0 : Hid (¬ (hdT B = 1 ∨ hdT B ≤ hdI B) → E ≠ 0 → R = ([], (0, 0, 0), E)) := fun h0 h => HR1.out.trans (ub_3 HHD.out H20.out h0 HDE.out h)
                have HRO0 : Hid (¬ (hdT B = 1 ∨ hdT B ≤ hdI B) → E = 0 → R = (ld, (hdI B, hdT B, hdP B), 0)) := fun h0 h => HR1.out.trans (ub_4 HHD.out H20.out h0 (by rw [HDE.out, h]))
                have HV4 : Hid (∀ WX, Ext wr WX → Calls Try.prog 27 #[.slice (bo.map (fun x => (⟨x.block, x.off + 4, none⟩ : Addr))) 4 (bc - 4)] WX fun e w' => e = .returned (.int .i64 (hdI B)) ∧ WX = w') := fun WX hWX =>
                  rvalue_any _ 4 _ ((B.drop 4).take 4) _ (by rw [List.length_take, List.length_drop, HBL.out]; omega) (by omega) (by rw [bools_cut]; exact (HB1.out.ext hWX).cut 4 4 (fun _ _ => rfl))
                have HV8 : Hid (∀ WX, Ext wr WX → Calls Try.prog 27 #[.slice (bo.map (fun x => (⟨x.block, x.off + 8, none⟩ : Addr))) 4 (bc - 8)] WX fun e w' => e = .returned (.int .i64 (num ((B.drop 8).take 4))) ∧ WX = w') := fun WX hWX =>
                  rvalue_any _ 4 _ ((B.drop 8).take 4) _ (by rw [List.length_take, List.length_drop, HBL.out]; omega) (by omega) (by rw [bools_cut]; exact (HB1.out.ext hWX).cut 8 4 (fun _ _ => rfl))
                have HV12 : Hid (∀ WX, Ext wr WX → Calls Try.prog 27 #[.slice (bo.map (fun x => (⟨x.block, x.off + 12, none⟩ : Addr))) 8 (bc - 12)] WX fun e w' => e = .returned (.int .i64 (hdP B)) ∧ WX = w') := fun WX hWX =>
                  rvalue_any _ 8 _ ((B.drop 12).take 8) _ (by rw [List.length_take, List.length_drop, HBL.out]; omega) (by omega) (by rw [bools_cut]; exact (HB1.out.ext hWX).cut 12 8 (fun _ _ => rfl))
                have HTE : Hid (hdT B = num ((B.drop 8).take 4) + 1) := rfl
                obtain ⟨i, hi⟩ : ∃ i, i = hdI B := ⟨_, rfl⟩
                obtain ⟨t, ht⟩ : ∃ t, t = hdT B := ⟨_, rfl⟩
                obtain ⟨p, hp⟩ : ∃ p, p = hdP B := ⟨_, rfl⟩
                obtain ⟨t0, ht0⟩ : ∃ t0, t0 = num ((B.drop 8).take 4) := ⟨_, rfl⟩
                rw [← hi, ← ht] at HRB HRE0 HRO0
                rw [← hp] at HRO0
                rw [← hi] at HV4
                rw [← hp] at HV12
                rw [← ht0] at HV8 hti HTE
                rw [← ht] at HTE
                clear hi ht hp ht0
                have y1 : W1.cell? ⟨g1, 1, none⟩ = some (.int .i64 0) := by rw [cell_of_row _ _ _ _ _ _ HGB.out]; rfl
                have y2 : W1.cell? ⟨g1, 2, none⟩ = some (.int .i64 0) := by rw [cell_of_row _ _ _ _ _ _ HGB.out]; rfl
                have y3 : W1.cell? ⟨g1, 3, none⟩ = some (.int .i64 0) := by rw [cell_of_row _ _ _ _ _ _ HGB.out]; rfl
                have f0 : ∀ o, W1.frozen? ⟨g1, o, none⟩ = false := fun o => frozen_of_row _ _ o _ _ HGB.out
                have wt : IntKind.i64.wrap (t0 + 1) = t0 + 1 := IntWalk.i64_in _ (by omega)
                go_upto_region 16 with fail
                have n4 : (4 : Int) ≤ (bc : Int) := by omega
                have n8 : (8 : Int) ≤ (bc : Int) := by omega
                have n12 : (12 : Int) ≤ (bc : Int) := by omega
                have n20 : (20 : Int) ≤ (bc : Int) := by omega
                have m8 : 8 ≤ bc := by omega
                have m12 : 12 ≤ bc := by omega
                have m20 : 20 ≤ bc := by omega
                have k4 : bc ≠ 4 := by omega
                have k8 : bc ≠ 8 := by omega
                have k12 : bc ≠ 12 := by omega
                go_region_held3 (fun w' => Ext wr w') (first | assumption | exact HX2.out.trans (Ext.drew _) | exact (((HX2.out.trans (Ext.drew _)).set HGG.out _ _).set HGG.out _ _).set HGG.out _ _)
                  (first
                  | (go_at_call 27; (with_reducible refine (HV4.out _ (by first | assumption | exact HX2.out.trans (Ext.drew _))).mono ?_); rintro e w' ⟨rfl, rfl⟩)
                  | (go_at_call 27; (with_reducible refine (HV8.out _ (by first | assumption | exact HX2.out.trans (Ext.drew _))).mono ?_); rintro e w' ⟨rfl, rfl⟩)
                  | (go_at_call 27; (with_reducible refine (HV12.out _ (by first | assumption | exact HX2.out.trans (Ext.drew _))).mono ?_); rintro e w' ⟨rfl, rfl⟩))
                all_goals
                  rw [← HTE.out]
                  obtain ⟨W4, hW4⟩ : ∃ W4 : World, W4 = (((W1.setCell ⟨g1, 1, none⟩ (.int .i64 i)).setCell ⟨g1, 2, none⟩ (.int .i64 t)).setCell ⟨g1, 3, none⟩ (.int .i64 p)).drew := ⟨_, rfl⟩
                  rw [← hW4]
                  have HGB4 : Hid (W4.heap[g1]? = some (.cells #[.slice none 0 0, .int .i64 i, .int .i64 t, .int .i64 p] 38 (0, 0))) := by
                    rw [hW4]
                    have h1 := heap_setCell_same W1 g1 1 _ _ (.int .i64 i) HGB.out
                    have h2 := heap_setCell_same _ g1 2 _ _ (.int .i64 t) h1
                    have h3 := heap_setCell_same _ g1 3 _ _ (.int .i64 p) h2
                    exact h3
                  have HKG4 : Hid (∀ k, k ≠ g1 → W4.heap[k]? = W1.heap[k]?) := by
                    intro k hk
                    rw [hW4]
                    exact (Below.heap_setCell _ _ _ _ hk).trans ((Below.heap_setCell _ _ _ _ hk).trans (Below.heap_setCell _ _ _ _ hk))
                  have HG4 : Hid (W4.heap[w.heap.size]? = some (.cells #[.slice none 0 0, .int .i64 0, .int .i64 0, .int .i64 0] 38 (0, 0))) := (HKG4.out _ (by have := HSG.out; omega)).trans HG2.out
                  have HX4 : Hid (Ext w W4) := by
                    rw [hW4]
                    exact (((HXW.out.set (Nat.le_of_lt HSG.out) _ _).set (Nat.le_of_lt HSG.out) _ _).set (Nat.le_of_lt HSG.out) _ _).trans (Ext.drew _)
                  have HB4 : Hid (Row W4 bo (bools B)) := by
                    intro k u hk
                    obtain ⟨a, ha, hc⟩ := HB2.out k u hk
                    refine ⟨a, ha, (World.cell?_of_block (w := W1) ?_).trans hc⟩
                    rw [block_add]
                    refine HKG4.out _ ?_
                    have := HBB.out a ha (by omega)
                    omega
                  have y1' : W4.cell? ⟨g1, 1, none⟩ = some (.int .i64 i) := by rw [cell_of_row _ _ _ _ _ _ HGB4.out]; rfl
                  have y2' : W4.cell? ⟨g1, 2, none⟩ = some (.int .i64 t) := by rw [cell_of_row _ _ _ _ _ _ HGB4.out]; rfl
                  clear hW4 f0 HGB HG2 HB2 HXW HKG4 y1 y2 y3 HV4 HV8 HV12 n4 n8 n12 n20 m8 m12 m20 k4 k8 k12
                  by_cases hbad : t = 1 ∨ t ≤ i
                  · have HR2 := Lib.hid (HRB.out hbad)
                    have hb' : t = 1 ∨ (t ≠ 1 ∧ t ≤ i) := by omega
                    clear hbad HRB HRE0 HRO0
                    rcases hb' with hb1 | ⟨hb1, hb2⟩
                    · subst hb1
                      go_wp2_with ((with_reducible show wpList _ _ _ (⟨none, .store 38 _ _, _, _, _, _⟩ :: _) _ _); refine wpList_storeOwn rfl 38 _ _ rfl w.heap.size _ rfl rfl 38 _ HG4.out (by kernel_rfl) (by kernel_rfl) (by kernel_rfl) w HX4.out (Nat.le_refl _) ?_; intro wE HXE HGE)
                      rw [HR2.out]
                      exact bodyPost_ret (results_cellSlot rfl _ wE w.heap.size 38 _ (0, 0) _ rfl HGE.out Try.underlying38 rfl (by kernel_rfl)) rfl ⟨none, 0, rfl, Segs.nil _ _, Nat.le_refl _, by decide, HXE⟩
                    · have hb3 : (t == 1) = false := by simp [hb1]
                      clear hb1
                      go_wp2_with ((with_reducible show wpList _ _ _ (⟨none, .store 38 _ _, _, _, _, _⟩ :: _) _ _); refine wpList_storeOwn rfl 38 _ _ rfl w.heap.size _ rfl rfl 38 _ HG4.out (by kernel_rfl) (by kernel_rfl) (by kernel_rfl) w HX4.out (Nat.le_refl _) ?_; intro wE HXE HGE)
                      rw [HR2.out]
                      exact bodyPost_ret (results_cellSlot rfl _ wE w.heap.size 38 _ (0, 0) _ rfl HGE.out Try.underlying38 rfl (by kernel_rfl)) rfl ⟨none, 0, rfl, Segs.nil _ _, Nat.le_refl _, by decide, HXE⟩
                  · have HRE := Lib.hid (HRE0.out hbad)
                    have HRO := Lib.hid (HRO0.out hbad)
                    have hb3 : (t == 1) = false := by rw [beq_eq_false_iff_ne]; intro h; exact hbad (Or.inl h)
                    have hb4 : ¬ t ≤ i := fun h => hbad (Or.inr h)
                    have HLD : Hid ((B.drop 20).length = 8 * j - 20) := by show _ = _; rw [List.length_drop, HBL.out]
                    clear hbad HRB HRE0 HRO0
                    go_wp2_with fail
                    refine (rclass_any v _).mono ?_
                    rw [HCL.out]
                    rintro e w' ⟨rfl, rfl⟩
                    simp only [two]
                    go_wp2_with fail
                    refine (rdecode_any _ (8 * j - 20) (bc - 20) (B.drop 20) K W4 HLD.out (by omega) (by rw [bools_drop]; exact HB4.out.dropped 20 (fun h2 => by rw [length_bools, HBL.out] at h2; first | rfl | (rw [if_neg (by omega)])))).mono ?_
                    rw [HDE.out]
                    rintro e wD ⟨so, sc, rfl, hsD, hcD, hmD, hxD⟩
                    simp only at hsD hcD ⊢
                    have HGBD := Lib.hid (hxD.old HGB4.out)
                    have HGD := Lib.hid (hxD.old HG4.out)
                    have HXD := Lib.hid ((HX4.out).trans hxD)
                    have HSD := Lib.hid hsD
                    clear hsD hxD
                    by_cases hE0 : E = 0
                    case neg =>
                      have HR9 := Lib.hid (HRE.out hE0)
                      have hne9 : (E != 0) = true := by simp [hE0]
                      clear hE0
                      go_wp2_with ((with_reducible show wpList _ _ _ (⟨none, .store 38 _ _, _, _, _, _⟩ :: _) _ _); refine wpList_storeOwn rfl 38 _ _ rfl w.heap.size _ rfl rfl 38 _ HGD.out (by kernel_rfl) (by kernel_rfl) (by kernel_rfl) w HXD.out (Nat.le_refl _) ?_; intro wE HXE HGE)
                      rw [HR9.out]
                      exact bodyPost_ret (results_cellSlot rfl _ wE w.heap.size 38 _ (0, 0) _ rfl HGE.out Try.underlying38 rfl (by kernel_rfl)) rfl ⟨none, 0, rfl, Segs.nil _ _, Nat.le_refl _, by decide, HXE⟩
                    case pos =>
                      have HR9 := Lib.hid (HRO.out hE0)
                      subst hE0
                      have c0 : wD.cell? ⟨g1, 0, none⟩ = some (.slice none 0 0) := by rw [cell_of_row _ _ _ _ _ _ HGBD.out]; rfl
                      have fz : wD.frozen? ⟨g1, 0, none⟩ = false := frozen_of_row _ _ 0 _ _ HGBD.out
                      have HGE1 : Hid ((wD.setCell ⟨g1, 0, none⟩ (.slice so ld.length sc)).heap[w.heap.size]? = some (.cells #[.slice none 0 0, .int .i64 0, .int .i64 0, .int .i64 0] 38 (0, 0))) :=
                        (Below.heap_setCell _ _ _ _ (by have := HSG.out; simp only; omega)).trans HGD.out
                      have HXE1 : Hid (Ext w (wD.setCell ⟨g1, 0, none⟩ (.slice so ld.length sc))) := HXD.out.set (Nat.le_of_lt HSG.out) _ _
                      have HRE1 : Hid (Row (wD.setCell ⟨g1, 0, none⟩ (.slice so ld.length sc)) (some ⟨g1, 0, none⟩) [.slice so ld.length sc, .int .i64 i, .int .i64 t, .int .i64 p]) :=
                        row_heap (heap_setS wD g1 _ (.slice so ld.length sc) [.int .i64 i, .int .i64 t, .int .i64 p] _ HGBD.out)
                      have HSE1 : Hid (SegsN (wD.setCell ⟨g1, 0, none⟩ (.slice so ld.length sc)) (W4).heap.size so ld) :=
                        HSD.out.kept (fun k hk _ => Below.heap_setCell _ _ _ _ (by have : g1 < (W4).heap.size := (Array.getElem?_eq_some_iff.1 HGB4.out).1; simp only; omega))
                      have HGW : Hid (w.heap.size < (W4).heap.size) := (Array.getElem?_eq_some_iff.1 HG4.out).1
                      have HON : Hid (([.slice so ld.length sc, .int .i64 i, .int .i64 t, .int .i64 p] : List Value).toArray.all (·.oneCell') = true) := by show _ = _; simp [Value.oneCell']
                      go_wp2_with (first | ((with_reducible show wpList _ _ _ (⟨some 109, _, _, _, _, _⟩ :: _) _ _); refine wpList_loadAgg rfl 38 _ rfl _ Try.underlying38 rfl _ rfl [.slice so ld.length sc, .int .i64 i, .int .i64 t, .int .i64 p] HRE1.out (by kernel_rfl) ?_) | ((with_reducible show wpList _ _ _ (⟨none, .store 38 _ _, _, _, _, _⟩ :: _) _ _); refine wpList_storeOwnK rfl 38 _ _ rfl w.heap.size _ rfl rfl 38 _ HGE1.out Try.sizeMsg (by rfl) HON.out w HXE1.out (Nat.le_refl _) ?_; intro wE HXE HGE HKE))
                      rw [HR9.out]
                      exact bodyPost_ret (results_cellSlot rfl _ wE w.heap.size 38 _ (0, 0) _ rfl HGE.out Try.underlying38 rfl (by kernel_rfl)) rfl ⟨so, sc, rfl, (HSE1.out.kept (fun k hk _ => HKE.out k (by have := HGW.out; omega))).segs, hcD, hmD, HXE⟩

open Go.ChangeShapes Go.WideShapes Go.ChangeAt Go.Joins

theorem decL_len (k : Nat) : ∀ (n : Nat) (bs : List Bool) (l : List SegD), bs.length ≤ n → l.length ≤ 4096 → (decL k l bs).1.length ≤ 4096 := by
  intro n
  induction n using Nat.strongRecOn with
  | ind n ih =>
    intro bs l hb hl
    by_cases h4 : bs.length < 4
    · by_cases h0 : num bs = 0
      · rw [dl_1 h4 h0]; exact hl
      · rw [dl_2 h4 h0]; simp
    · by_cases h0 : num (bs.take 4) = 0
      · rw [dl_3 h4 h0]; exact hl
      · cases hok : okMode (num (bs.take 4))
        · rw [dl_4 h4 h0 hok]; simp
        · by_cases hl4 : 4096 ≤ l.length
          · rw [dl_5 h4 h0 hok hl4]; simp
          · obtain ⟨d, E, r, hrr⟩ : ∃ d E r, readRes (num (bs.take 4)) k (bs.drop 4) = (d, E, r) := ⟨_, _, _, rfl⟩
            by_cases hE : E = 0
            · subst hE
              rw [dl_7 h4 h0 hok hl4 hrr]
              have hrl := readRes_left (num (bs.take 4)) k (bs.drop 4)
              rw [hrr] at hrl
              simp at hrl
              exact ih (n - 1) (by omega) r _ (by omega) (by simp; omega)
            · rw [dl_6 h4 h0 hok hl4 hrr hE]; simp
theorem decRes_len (bs : List Bool) (c : Int) : (decRes bs c).1.length ≤ 4096 := by
  unfold decRes
  split
  · simp
  · split
    · simp
    · exact decL_len _ _ bs [] (Nat.le_refl _) (by simp)
theorem unpRes_len (l : List Int) (v : Int) : (unpRes l v).1.length ≤ 4096 := by
  unfold unpRes
  split
  · simp
  · split
    · simp
    · split
      · simp
      · unfold unbRes
        split
        · split
          · simp
          · split
            · simp
            · split
              · simp
              · exact decRes_len _ _
        · split
          · simp
          · exact decRes_len _ _

set_option maxRecDepth 20000 in
set_option maxHeartbeats 1600000 in
theorem qrdataUnpacks_walk (ao : Option Addr) (len cap : Nat) (l : List Int) (v : Int) (w : World) (hl : l.length = len) (hc : len ≤ cap) (hm : cap ≤ 9223372036854775807) (_ : ao = none → cap = 0) (hr : Row w ao (ints l)) (_ : ∀ n ∈ l, -9223372036854775808 ≤ n ∧ n ≤ 9223372036854775807) (_ : -9223372036854775808 ≤ v ∧ v ≤ 9223372036854775807) :
    Calls Try.prog 7 #[.slice ao len cap, .int .i64 v] w fun e w' => e = .returned (.bool true) ∧ Ext w w' := by
  have HP := Lib.hid (unpack_msg ao len cap l v w hl hc hm hr)
  have HQ := fun W (hx : Ext w W) => Lib.hid (runpack_msg ao len cap l v W hl hc hm (hr.ext hx))
  have hlen := unpRes_len l v
  obtain ⟨r, ⟨i, t, p⟩, E, hR⟩ : ∃ r q E, unpRes l v = (r, q, E) := ⟨_, _, _, rfl⟩
  rw [hR] at hlen HP
  simp only [hR] at HQ hlen
  clear hR hl
  obtain ⟨n, hn⟩ : ∃ n, n = r.length := ⟨_, rfl⟩
  have HN := Lib.hid hn.symm
  rw [← hn] at hlen
  clear hn
  go_enter Try.func7, Try.ntmps7
  go_wp2_with fail
  refine HP.out.mono ?_
  rintro e w1 ⟨uo, uc, rfl, hus, huc, hum, hx1⟩
  simp only at hus huc ⊢
  rw [HN.out] at huc ⊢
  have HX1 := Lib.hid hx1
  have HU1 := Lib.hid hus
  clear hx1 hus
  go_wp2_with fail
  refine (HQ _ (HX1.out.trans (Ext.alloc _ _))).out.mono ?_
  rintro e w2 ⟨vo, vc, rfl, hvs, hvc, hvm, hx2⟩
  simp only at hvs hvc ⊢
  rw [HN.out] at hvc ⊢
  have HA2 : Hid (Row w2 (some ⟨w1.heap.size, 0, none⟩) [.slice uo n uc, .int .i64 i, .int .i64 t, .int .i64 p]) := (Row.lit w1 [.slice uo n uc, .int .i64 i, .int .i64 t, .int .i64 p] 38).ext hx2
  have HX2 := Lib.hid (HX1.out.trans ((Ext.alloc _ _).trans hx2))
  have HU2 := Lib.hid (HU1.out.ext ((Ext.alloc _ _).trans hx2))
  have HV2 := Lib.hid hvs
  clear hx2 hvs HX1 HU1
  have HA4 : Hid (Row (w2.alloc (.cells #[.slice vo n vc, .int .i64 i, .int .i64 t, .int .i64 p] 38)) (some ⟨w1.heap.size, 0, none⟩) [.slice uo n uc, .int .i64 i, .int .i64 t, .int .i64 p]) := HA2.out.ext (Ext.alloc _ _)
  have z0 : (w2.alloc (.cells #[.slice vo n vc, .int .i64 i, .int .i64 t, .int .i64 p] 38)).cell? ⟨w1.heap.size, 0, none⟩ = some (.slice uo n uc) := by obtain ⟨a, ha, c⟩ := HA4.out.at (i := 0) rfl; cases ha; exact c
  have z1 : (w2.alloc (.cells #[.slice vo n vc, .int .i64 i, .int .i64 t, .int .i64 p] 38)).cell? ⟨w1.heap.size, 1, none⟩ = some (.int .i64 i) := by obtain ⟨a, ha, c⟩ := HA4.out.at (i := 1) rfl; cases ha; exact c
  have z2 : (w2.alloc (.cells #[.slice vo n vc, .int .i64 i, .int .i64 t, .int .i64 p] 38)).cell? ⟨w1.heap.size, 2, none⟩ = some (.int .i64 t) := by obtain ⟨a, ha, c⟩ := HA4.out.at (i := 2) rfl; cases ha; exact c
  have z3 : (w2.alloc (.cells #[.slice vo n vc, .int .i64 i, .int .i64 t, .int .i64 p] 38)).cell? ⟨w1.heap.size, 3, none⟩ = some (.int .i64 p) := by obtain ⟨a, ha, c⟩ := HA4.out.at (i := 3) rfl; cases ha; exact c
  have HMS : Hid (Calls Try.prog 21 #[.agg #[.slice uo n uc, .int .i64 i, .int .i64 t, .int .i64 p], .agg #[.slice vo n vc, .int .i64 i, .int .i64 t, .int .i64 p]] (w2.alloc (.cells #[.slice vo n vc, .int .i64 i, .int .i64 t, .int .i64 p] 38)) fun e w' => e = .returned (.bool true) ∧ Ext (w2.alloc (.cells #[.slice vo n vc, .int .i64 i, .int .i64 t, .int .i64 p] 38)) w') := by
    have := msame_any uo vo uc vc r i t p (w2.alloc (.cells #[.slice vo n vc, .int .i64 i, .int .i64 t, .int .i64 p] 38)) (by rw [HN.out]; omega) (HU2.out.ext (Ext.alloc _ _)) (HV2.out.ext (Ext.alloc _ _))
    rwa [HN.out] at this
  go_wp2_with fail
  refine HMS.out.mono ?_
  rintro e w5 ⟨rfl, hx5⟩
  clear z0 z1 z2 z3
  go_wp2_with fail
  refine (examples_any _).mono ?_
  rintro e w6 ⟨rfl, hx6⟩
  go_wp2_with fail
  go_ret
  exact ⟨rfl, HX2.out.trans ((Ext.alloc _ _).trans (hx5.trans hx6))⟩

set_option maxRecDepth 100000 in
theorem qrdataUnpacks_lifted (os : Os) (started : os.Started) (H : Type) (enc : TypeId × Value → H) :
    ReturnsInHanded {} Try.checked os 7 .any (Rows.qrdataUnpacksSpec.pre6 enc Try.prog Try.f7 Rows.qrdataUnpacksRow.domain false) (Rows.qrdataUnpacksSpec.post enc Try.prog Try.f7 false true false false) := by
  refine returnsInHanded_of_change (C := Try.checked) Try.own started (by kernel_rfl) Try.func7
    (ChangeSpec.witness6 (enc := enc) (C := Try.checked) false ⟨#[], #[.slice none 0 0, .int .i64 0], []⟩ 8 (by kernel_rfl) (by kernel_rfl) (by kernel_rfl) (by kernel_rfl)) ?_
  intro W base args ds gs before hval0 hW _ _
  have hval : ∀ (j : Nat) t v, Try.f7.params[j]? = some t → args[j]? = some v → Value.okWide Try.prog W .any base t v := hval0
  have hW' := hW
  obtain ⟨p, q, hA0, hV, rfl, _, _⟩ := hW
  have hA : DataW.TrodAll enc Try.prog W 0 (fun _ => true) true Try.f7.params.toList args.toList ds p := hA0
  rw [Try.params7] at hA hval
  obtain ⟨rfl, rfl⟩ := trodVars_none hV
  clear hA0 hval0
  simp only [List.append_nil] at hW'
  have hlt : ∀ x ∈ p, x.block < W.heap.size := fun x hx => by simpa using hW'.lt x hx
  have hstay : ∀ W', Below W.heap.size W W' → _ := fun W' hb => args_stay (enc := enc) Try.laidOut hb _ _ _ _ (by kernel_rfl) hA hlt
  obtain ⟨v0, v1, d0, d1, p0, p1, rfl, rfl, rfl, h0, h1⟩ := trodAll_two hA
  obtain ⟨ao0, len0, cap0, rfl⟩ := okWide_slice Try.underlying31 (hval 0 31 v0 rfl rfl)
  obtain ⟨fuel0, hf0⟩ := h0
  obtain ⟨xs0, ⟨ao0', len0', cap0', hv0, hl0, hc0, hm0, hn0, hr0⟩, hw0⟩ := view_nums Try.underlying31 Try.underlying3 Try.cellsInt hf0
  cases hv0
  obtain ⟨x1, rfl, rfl, rfl, wx1⟩ := open_int Try.underlying3 (hval 1 3 v1 rfl rfl) h1
  refine (qrdataUnpacks_walk ao0 len0 cap0 xs0 x1 W (by rw [List.length_map] at hl0; exact hl0) hc0 hm0 hn0 hr0 (fun n hn => wf_i64_bd (hw0 n hn)) (wf_i64_bd wx1)).mono fun e W' ⟨he, hb⟩ => ?_
  subst he
  exact ⟨_, rfl, _, _, _, [], _, [], hW', trodAll_mk1 (shut_bool Try.underlying4 _), hstay W' hb, rfl, hb.frame _, fun h => by cases h⟩

theorem qrdataUnpacks_holds : Rows.QrdataUnpacksSaid :=
  OpenClaim.holds_of_wide 7 Try.f7 rfl rfl rfl rfl rfl rfl rfl ⟨rfl, rfl, rfl, rfl, rfl⟩ rfl rfl rfl rfl rfl (by kernel_rfl) Try.func7 (by kernel_rfl)
    (of_decide_eq_true (by kernel_rfl)) (by unfold Func.isWrapper; first | (rw [if_pos (by decide +kernel)]; kernel_rfl) | (rw [if_neg (by decide +kernel)]; exact ⟨rfl, rfl⟩))
    (fun os started H enc _ => qrdataUnpacks_lifted os started H enc)


end Go.Proofs.Ytbfcgggcdmafoaa
