/-
  For every input QrversionFits returns true, and each argument reads afterwards as it read before (Rows.QrversionFitsSaid).
  No condition.
-/
import Derived.Test.YthebfpolijajgaaSmA
import Derived.Test.YthebfpolijajgaaExB
import Derived.Test.YthebfpolijajgaaMinPlain
import Derived.Deep.RegionHeld3
namespace Go.Proofs.Ythebfpolijajgaa
open Go.RowKit Go.Bs Go.ChangeShapes Go.WideShapes Go.ChangeAt Go.Joins Go.Mode Go.Qrv

theorem smF_cases (p : List UInt8) (l : Nat) (x : Int) : ∀ (f v : Nat),
    (∃ u, v ≤ u ∧ u < v + f ∧ okV p l x u ∧ (∀ t, v ≤ t → t < u → ¬ okV p l x t) ∧ smF p l x f v = ((u : Int), bestL (cls u) p, 0)) ∨
    ((∀ t, v ≤ t → t < v + f → ¬ okV p l x t) ∧ smF p l x f v = (0, [], 16)) := by
  intro f
  induction f with
  | zero => intro v; exact Or.inr ⟨fun t h1 h2 => by omega, rfl⟩
  | succ f ih =>
    intro v
    by_cases hok : okV p l x v
    · refine Or.inl ⟨v, Nat.le_refl _, by omega, hok, fun t h1 h2 => by omega, ?_⟩
      simp only [smF, if_pos hok]
    · have hs : smF p l x (f + 1) v = smF p l x f (v + 1) := by simp only [smF, if_neg hok]
      rw [hs]
      rcases ih (v + 1) with ⟨u, h1, h2, h3, h4, h5⟩ | ⟨h1, h2⟩
      · refine Or.inl ⟨u, by omega, by omega, h3, fun t ht1 ht2 => ?_, h5⟩
        by_cases e : t = v
        · rw [e]; exact hok
        · exact h4 t (by omega) ht2
      · refine Or.inr ⟨fun t ht1 ht2 => ?_, h2⟩
        by_cases e : t = v
        · rw [e]; exact hok
        · exact h1 t (by omega) (by omega)

theorem joinL_len : ∀ (l : List SegD), (∀ s ∈ l, s.2 ≠ []) → l.length ≤ (joinL l).length := by
  intro l
  induction l with
  | nil => intro _; exact Nat.zero_le _
  | cons q l ih =>
    intro h
    have h1 := ih fun s hs => h s (List.mem_cons_of_mem _ hs)
    have h2 := List.length_pos_iff.2 (h q (by simp))
    have hj : joinL (q :: l) = q.2 ++ joinL l := rfl
    rw [hj, List.length_append, List.length_cons]
    omega




set_option maxRecDepth 20000 in
set_option maxHeartbeats 4000000 in
theorem qrversionFits_walk (ao : Option Addr) (len cap : Nat) (p : List UInt8) (lv x : Int) (w : World) (hl : p.length = len) (hc : len ≤ cap) (hm : cap ≤ 9223372036854775807) (hn : ao = none → cap = 0) (hr : Row w ao (byts p)) (_ : -9223372036854775808 ≤ lv ∧ lv ≤ 9223372036854775807) (hx : -9223372036854775808 ≤ x ∧ x ≤ 9223372036854775807) :
    Calls Try.prog 13 #[.slice ao len cap, .int .i64 lv, .int .i64 x] w fun e w' => e = .returned (.bool true) ∧ Ext w w' := by
  have HL := Lib.hid hl
  have HN := Lib.hid hn
  have HR := Lib.hid hr
  have HXB := Lib.hid hx.2
  clear hl hn hr hx
  by_cases hbig : 700 < len
  · go_enter Try.func13, Try.ntmps13
    go_wp2_with fail
    refine (alive_any _).mono ?_
    rintro e w6 ⟨rfl, hx6⟩
    go_wp2_with fail
    go_ret
    exact ⟨rfl, hx6⟩
  · have hsr : (∃ er : Int, (er = 15 ∨ er = 3) ∧ smRes p lv x = (0, [], er)) ∨ (∃ l : Nat, lv = l ∧ 1 ≤ l ∧ l ≤ 4 ∧ 0 ≤ x ∧ smRes p lv x = smF p l x 40 1) := by
      unfold smRes
      by_cases h1 : lv < 1 ∨ 4 < lv
      · exact Or.inl ⟨15, Or.inl rfl, by rw [if_pos h1]⟩
      · by_cases h2 : x < 0
        · exact Or.inl ⟨3, Or.inr rfl, by rw [if_neg h1, if_pos h2]⟩
        · refine Or.inr ⟨lv.toNat, by omega, by omega, by omega, by omega, ?_⟩
          rw [if_neg h1, if_neg h2, if_neg (by rw [HL.out]; omega)]
    rcases hsr with ⟨er, her, hA⟩ | ⟨l, rfl, hl1, hl4, hx0, hA⟩
    · have HA := Lib.hid hA
      clear hA
      have e1 : (er == 0) = false := by rcases her with rfl | rfl <;> rfl
      have e2 : (er != 16) = true := by rcases her with rfl | rfl <;> rfl
      clear her
      go_enter Try.func13, Try.ntmps13
      go_wp2_with fail
      refine (smallest_any ao len cap p lv x w HL.out hc hm HN.out HR.out HXB.out).mono ?_
      rw [HA.out]
      rintro e w1 ⟨ao1, cap1, rfl, hs1, hc1, hm1, hx1⟩
      simp only at hs1 hc1 ⊢
      have HX1 := Lib.hid hx1
      clear hs1 hx1
      go_wp2_with fail
      refine (alive_any _).mono ?_
      rintro e w6 ⟨rfl, hx6⟩
      go_wp2_with fail
      go_ret
      exact ⟨rfl, HX1.out.trans hx6⟩
    · have hl1 : 1 ≤ l ∧ l ≤ 4 := ⟨hl1, hl4⟩
      clear hl4
      rcases smF_cases p l x 40 1 with ⟨v, hv1, hv2, hok, hno, hsm⟩ | ⟨hno, hsm⟩
      · have HA := Lib.hid (hA.trans hsm)
        clear hA hsm
        have HOK := Lib.hid hok
        have HNO := Lib.hid hno
        clear hok hno
        obtain ⟨hval, hjl, htot⟩ := best_valid (cls v) p.length p (Nat.le_refl _)
        have hbb := plan_bd (cls v) p.length p rfl
        have hbb2 : (plan (cls v) p).bits ≤ 114688 := by have := HL.out; omega
        have HJL := Lib.hid hjl
        have h4096 : (bestL (cls v) p).length ≤ 4096 := by
          have h := joinL_len (bestL (cls v) p) (fun s hs => (hval s hs).2)
          rw [hjl, HL.out] at h
          omega
        have HBI : Hid (bitsRes (bestL (cls v) p) (cls v) = (((plan (cls v) p).bits : Int), 0)) := by
          rw [← htot]
          exact bits_ok (cls v) (cls_le v) _ h4096 (fun q hq => (hval q hq).1) (by rw [htot]; omega)
        obtain ⟨L, hL⟩ : ∃ L, L = bestL (cls v) p := ⟨_, rfl⟩
        rw [← hL] at HA h4096
        have HLL := Lib.hid hL
        obtain ⟨nl, hnl⟩ : ∃ nl, nl = L.length := ⟨_, rfl⟩
        have HNL := Lib.hid hnl
        have HJL2 : Hid (joinL L = p) := by rw [hL]; exact hjl
        have hpl : p.length ≤ 70368744177664 := by have := HL.out; omega
        have HJN := fun (b : Option Addr) (c : Nat) (W : World) (h : Segs W b L) => Lib.hid (join_any b c L W (by omega) h (by rw [HJL2.out]; exact hpl))
        rw [HJL2.out, ← hnl] at HJN
        rw [← hnl] at h4096
        clear hval hjl htot hbb hbb2 hL hnl hpl
        have HCVP := fun (W : World) (h : Ext w W) => Lib.hid (run_toString (P := Try.prog) (src := 22) (dst := 9) (c := cap) Try.underlying22 Try.underlying5 Try.underlying9 (HR.out.ext h) rfl)
        have HCV6 := fun (b : Option Addr) (c : Nat) (W : World) (h : Row W b (byts p)) => Lib.hid (run_toString (P := Try.prog) (src := 22) (dst := 9) (c := c) Try.underlying22 Try.underlying5 Try.underlying9 h rfl)
        rw [HL.out] at HCVP
        go_enter Try.func13, Try.ntmps13
        go_wp2_with fail
        refine (smallest_any ao len cap p l x w HL.out hc hm HN.out HR.out HXB.out).mono ?_
        rw [HA.out]
        rintro e w1 ⟨ao1, cap1, rfl, hs1, hc1, hm1, hx1⟩
        simp only at hs1 hc1 ⊢
        have HS1 := Lib.hid hs1.segs
        have HX1 := Lib.hid hx1
        rw [← HNL.out] at hc1 ⊢
        clear hs1 hx1
        obtain ⟨wA, hwA⟩ : ∃ wA, wA = w1 := ⟨_, rfl⟩
        subst hwA
        go_wp2_with fail
        go_loopw [11, 12, 13, 14, 15, 16, 17, 18, 19, 20] (fun ver _ _ _ _ _ _ _ _ _ wr => ∃ u : Nat, 1 ≤ u ∧ u ≤ v + 1 ∧ ver = .int .i64 u ∧ Hid (Ext w wr) ∧ Hid (Ext wA wr)) (fun ver _ _ _ _ _ _ _ _ _ _ => v + 1 - (intOf ver).toNat)
        case atStart => exact ⟨1, by omega, by omega, rfl, HX1, Ext.refl _⟩
        case round =>
          obtain ⟨u, hu1, hu3, rfl, HX, HXA⟩ := hrel
          by_cases hlt : u < v
          · have hu2 : u ≤ 40 := by omega
            have HNOU := Lib.hid (HNO.out u hu1 hlt)
            have hne : ((u : Int) == (v : Int)) = false := by simp; omega
            have HCL := Lib.hid (cl_res u hu1 hu2)
            have HCP : Hid (cpRes u l = ((dataN u l : Int), 0)) := cpRes_3 (by unfold inV; omega) hl1
            have hdb := data_le u l hu1 hu2 hl1
            obtain ⟨dt, hdt⟩ : ∃ dt, dt = dataN u l := ⟨_, rfl⟩
            rw [← hdt] at hdb HCP
            have HDT := Lib.hid hdt
            have hbb := plan_bd (cls u) p.length p rfl
            have hbb2 : (plan (cls u) p).bits ≤ 114688 := by have := HL.out; omega
            obtain ⟨bt, hbt⟩ : ∃ bt, bt = (plan (cls u) p).bits := ⟨_, rfl⟩
            rw [← hbt] at hbb2
            have HBT := Lib.hid hbt
            have hcv := cls_le u
            obtain ⟨cv, hcve⟩ : ∃ cv, cv = cls u := ⟨_, rfl⟩
            have HBE : Hid (bestRes p ((cv : Nat) : Int) = (bestL (cls u) p, (bt : Int), 0)) := by
              refine Lib.hid ?_
              rw [hcve]
              unfold bestRes
              rw [if_neg (by omega), if_neg (by rw [HL.out]; omega), hbt]
              simp
            rw [← hcve] at HCL hcv
            have HCV := Lib.hid hcve
            clear hdt hbt hcve hbb
            go_wp2_with fail
            refine (class_any _ _).mono ?_
            rw [HCL.out]
            rintro e w1 ⟨rfl, rfl⟩
            simp only [two]
            go_wp2_with fail
            refine (best_any ao len cap p cv wr HL.out hc hm HN.out (HR.out.ext HX.out)).mono ?_
            rw [HBE.out]
            rintro e w2 ⟨sao, scap, rfl, hs2, hcl2, hcm2, hx2⟩
            simp only at hs2 hcl2 ⊢
            have HR2 := Lib.hid hx2
            clear hs2 hx2
            go_wp2_with fail
            refine (capacity_any _ _ _).mono ?_
            rw [HCP.out]
            rintro e w3 ⟨rfl, hx3⟩
            simp only [two]
            have HR3 := Lib.hid (HR2.out.trans hx3)
            clear hx3
            have hdk : decide (x ≤ 8 * (dt : Int) - (bt : Int)) = false := by have h := HNOU.out; unfold okV at h; rw [← HDT.out, ← HBT.out] at h; simpa using h
            go_wp2_with fail
            refine ⟨⟨u + 1, by omega, by omega, by rw [Int.natCast_succ], Lib.hid (HX.out.trans HR3.out), Lib.hid (HXA.out.trans HR3.out)⟩, by simp [intOf]; omega⟩
          · by_cases heq : u = v
            · subst heq
              have hu2 : u ≤ 40 := by omega
              have hee : ((u : Int) == (u : Int)) = true := by simp
              have HCL := Lib.hid (cl_res u hu1 hu2)
              have HCP : Hid (cpRes u l = ((dataN u l : Int), 0)) := cpRes_3 (by unfold inV; omega) hl1
              have hdb := data_le u l hu1 hu2 hl1
              obtain ⟨dt, hdt⟩ : ∃ dt, dt = dataN u l := ⟨_, rfl⟩
              rw [← hdt] at hdb HCP
              have HDT := Lib.hid hdt
              have hbb := plan_bd (cls u) p.length p rfl
              have hbb2 : (plan (cls u) p).bits ≤ 114688 := by have := HL.out; omega
              obtain ⟨bt, hbt⟩ : ∃ bt, bt = (plan (cls u) p).bits := ⟨_, rfl⟩
              rw [← hbt] at hbb2
              have HBT := Lib.hid hbt
              have hcv := cls_le u
              obtain ⟨cv, hcve⟩ : ∃ cv, cv = cls u := ⟨_, rfl⟩
              have HBE : Hid (bestRes p ((cv : Nat) : Int) = (bestL (cls u) p, (bt : Int), 0)) := by
                refine Lib.hid ?_
                rw [hcve]
                unfold bestRes
                rw [if_neg (by omega), if_neg (by rw [HL.out]; omega), hbt]
                simp
              rw [← hcve] at HCL hcv
              have HCV := Lib.hid hcve
              clear hdt hbt hcve hbb
              go_wp2_with fail
              refine (class_any _ _).mono ?_
              rw [HCL.out]
              rintro e w1 ⟨rfl, rfl⟩
              simp only [two]
              go_wp2_with fail
              refine (best_any ao len cap p cv wr HL.out hc hm HN.out (HR.out.ext HX.out)).mono ?_
              rw [HBE.out]
              rintro e w2 ⟨sao, scap, rfl, hs2, hcl2, hcm2, hx2⟩
              simp only at hs2 hcl2 ⊢
              have HR2 := Lib.hid hx2
              clear hs2 hx2
              go_wp2_with fail
              refine (capacity_any _ _ _).mono ?_
              rw [HCP.out]
              rintro e w3 ⟨rfl, hx3⟩
              simp only [two]
              have HR3 := Lib.hid (HR2.out.trans hx3)
              clear hx3
              have hdk : decide (x ≤ 8 * (dt : Int) - (bt : Int)) = true := by have h := HOK.out; unfold okV at h; rw [← HDT.out, ← HBT.out] at h; simpa using h
              have HBI2 : Hid (bitsRes L cv = ((bt : Int), 0)) := by refine Lib.hid ?_; rw [HLL.out, HCV.out, HBT.out]; exact HBI.out
              have hbb : ((bt : Int) != (bt : Int)) = false := by simp
              have HXA3 := Lib.hid (HXA.out.trans HR3.out)
              go_wp2_with fail
              refine (bits_any ao1 nl cap1 L cv w3 HNL.out.symm hc1 hm1 (HS1.out.ext HXA3.out)).mono ?_
              rw [HBI2.out]
              rintro e w4 ⟨rfl, hx4⟩
              simp only [two]
              have HXA4 := Lib.hid (HXA3.out.trans hx4)
              have HX4 := Lib.hid (HX.out.trans (HR3.out.trans hx4))
              clear hx4
              go_wp2_with fail
              have hcvp := fun (W : World) (h : Ext w4 W) => (HCVP W (HX4.out.trans h)).out
              refine wp_region_held_drew (S := fun W => Ext w4 W) (by kernel_rfl) (Ext.drew _) (fun hHeld => ?_)
              skip
              refine wpAnyH_take (i := 0) (v := ?_) rfl (by kernel_rfl) (by kernel_rfl) (by kernel_rfl) (fun _ _ _ h => h) (Or.inl ⟨by rfl, ?_⟩) (by assumption) ?_
              rotate_left
              · (intro w hSw; try dsimp only at hSw); go_simp; try with_reducible rfl
              simp only [List.getElem_toArray, List.getElem_cons_zero, Act.put, List.setIfInBounds_toArray, List.set_cons_zero, List.set_cons_succ]
              skip
              refine wpAnyH_take (i := 1) (v := ?_) rfl (by kernel_rfl) (by kernel_rfl) (by kernel_rfl) (fun _ _ _ h => h) (Or.inl ⟨by rfl, ?_⟩) (by assumption) ?_
              rotate_left
              · (intro w hSw; try dsimp only at hSw); go_simp; try with_reducible rfl
              simp only [List.getElem_toArray, List.getElem_cons_zero, List.getElem_cons_succ, Act.put, List.setIfInBounds_toArray, List.set_cons_zero, List.set_cons_succ]
              skip
              refine wpAnyH_take (i := 2) (v := ?_) rfl (by kernel_rfl) (by kernel_rfl) (by kernel_rfl) (fun _ _ _ h => h) (Or.inl ⟨by rfl, ?_⟩) (by assumption) ?_
              rotate_left
              · (intro w hSw; try dsimp only at hSw); go_simp; try with_reducible rfl
              simp only [List.getElem_toArray, List.getElem_cons_zero, List.getElem_cons_succ, Act.put, List.setIfInBounds_toArray, List.set_cons_zero, List.set_cons_succ]
              skip
              refine wpAnyH_take (i := 3) (v := ?_) rfl (by kernel_rfl) (by kernel_rfl) (by kernel_rfl) (fun _ _ _ h => h) (Or.inl ⟨by rfl, ?_⟩) (by assumption) ?_
              rotate_left
              · (intro w hSw; try dsimp only at hSw); go_simp; try with_reducible rfl
              simp only [List.getElem_toArray, List.getElem_cons_zero, List.getElem_cons_succ, Act.put, List.setIfInBounds_toArray, List.set_cons_zero, List.set_cons_succ]
              skip
              refine wpAnyH_take (i := 4) (v := ?_) rfl (by kernel_rfl) (by kernel_rfl) (by kernel_rfl) (fun _ _ _ h => h) (Or.inl ⟨by rfl, ?_⟩) (by assumption) ?_
              rotate_left
              · (intro w hSw; try dsimp only at hSw); go_simp; try with_reducible rfl
              simp only [List.getElem_toArray, List.getElem_cons_zero, List.getElem_cons_succ, Act.put, List.setIfInBounds_toArray, List.set_cons_zero, List.set_cons_succ]
              skip
              refine wpAnyH_take (i := 5) (v := ?_) rfl (by kernel_rfl) (by kernel_rfl) (by kernel_rfl) (fun _ _ _ h => h) (Or.inl ⟨by rfl, ?_⟩) (by assumption) ?_
              rotate_left
              · (intro w hSw; try dsimp only at hSw); go_simp; try with_reducible rfl
              simp only [List.getElem_toArray, List.getElem_cons_zero, List.getElem_cons_succ, Act.put, List.setIfInBounds_toArray, List.set_cons_zero, List.set_cons_succ]
              skip
              refine wpAnyH_take (i := 6) (v := ?_) rfl (by kernel_rfl) (by kernel_rfl) (by kernel_rfl) (fun _ _ _ h => h) (Or.inl ⟨by rfl, ?_⟩) (by assumption) ?_
              rotate_left
              · (intro w hSw; try dsimp only at hSw); go_simp; try with_reducible rfl
              simp only [List.getElem_toArray, List.getElem_cons_zero, List.getElem_cons_succ, Act.put, List.setIfInBounds_toArray, List.set_cons_zero, List.set_cons_succ]
              skip
              refine wpAnyH_take (i := 7) (v := ?_) rfl (by kernel_rfl) (by kernel_rfl) (by kernel_rfl) (fun _ _ _ h => h) (Or.inl ⟨by rfl, ?_⟩) (by assumption) ?_
              rotate_left
              · (intro w hSw; try dsimp only at hSw); go_simp; try with_reducible rfl
              simp only [List.getElem_toArray, List.getElem_cons_zero, List.getElem_cons_succ, Act.put, List.setIfInBounds_toArray, List.set_cons_zero, List.set_cons_succ]
              skip
              refine wpAnyH_take (i := 8) (v := ?_) rfl (by kernel_rfl) (by kernel_rfl) (by kernel_rfl) (fun _ _ _ h => h) (Or.inl ⟨by rfl, ?_⟩) (by assumption) ?_
              rotate_left
              · (intro w hSw; try dsimp only at hSw); go_simp; try with_reducible rfl
              simp only [List.getElem_toArray, List.getElem_cons_zero, List.getElem_cons_succ, Act.put, List.setIfInBounds_toArray, List.set_cons_zero, List.set_cons_succ]
              skip
              refine wpAnyH_take (i := 11) (v := ?_) rfl (by kernel_rfl) (by kernel_rfl) (by kernel_rfl) (fun _ _ _ h => h) (Or.inl ⟨by rfl, ?_⟩) (by assumption) ?_
              rotate_left
              · (intro w hSw; try dsimp only at hSw); go_simp; try with_reducible rfl
              simp only [List.getElem_toArray, List.getElem_cons_zero, List.getElem_cons_succ, Act.put, List.setIfInBounds_toArray, List.set_cons_zero, List.set_cons_succ]
              skip
              refine wpAnyH_take (i := 12) (v := ?_) rfl (by kernel_rfl) (by kernel_rfl) (by kernel_rfl) (fun _ _ _ h => h) (Or.inl ⟨by rfl, ?_⟩) (by assumption) ?_
              rotate_left
              · (intro w hSw; try dsimp only at hSw); go_simp; try with_reducible rfl
              simp only [List.getElem_toArray, List.getElem_cons_zero, List.getElem_cons_succ, Act.put, List.setIfInBounds_toArray, List.set_cons_zero, List.set_cons_succ]
              refine wpAnyH_ready (rs := [9]) (by kernel_rfl) (by simp) ?_
              refine AllReadyH.cons rfl (fun K hK => ?_) AllReadyH.nil
              go_simp
              go_at_call 34
              (with_reducible refine (HJN ao1 cap1 _ (HS1.out.ext (HXA4.out.trans hHeld))).out.mono ?_)
              intro e w6 hret6
              obtain ⟨b6, c6, rfl, h6, _, _, _, hx6⟩ := hret6.byts
              clear hret6
              have hcur := hHeld.trans hx6
              have cv6 := (HCV6 b6 c6 w6 h6).out
              go_wp2_with fail
              refine hK.out _ _ hcur (fun hHeld6 => ?_)
              clear hK K
              refine wpAnyH_ready (rs := [10]) (by kernel_rfl) (by simp) ?_
              refine AllReadyH.cons rfl (fun K hK => ?_) AllReadyH.nil
              go_simp
              refine hK.out _ _ hcur (fun hHeld7 => ?_)
              clear hK K
              skip
              refine wpAnyH_take (i := 13) (v := ?_) rfl (by kernel_rfl) (by kernel_rfl) (by kernel_rfl) (fun _ _ _ h => h) (Or.inl ⟨by rfl, ?_⟩) (by assumption) ?_
              rotate_left
              · (intro w hSw; try dsimp only at hSw); go_simp; try with_reducible rfl
              simp only [List.getElem_toArray, List.getElem_cons_zero, List.getElem_cons_succ, Act.put, List.setIfInBounds_toArray, List.set_cons_zero, List.set_cons_succ]
              skip
              refine wpAnyH_take (i := 14) (v := ?_) rfl (by kernel_rfl) (by kernel_rfl) (by kernel_rfl) (fun _ _ _ h => h) (Or.inl ⟨by rfl, ?_⟩) (by assumption) ?_
              rotate_left
              · (intro w hSw; try dsimp only at hSw); go_simp; try with_reducible rfl
              simp only [List.getElem_toArray, List.getElem_cons_zero, List.getElem_cons_succ, Act.put, List.setIfInBounds_toArray, List.set_cons_zero, List.set_cons_succ]
              refine wpAnyH_done (by kernel_rfl) ?_ _
              go_wp2_with fail
              refine ⟨⟨u + 1, by omega, by omega, by rw [Int.natCast_succ], Lib.hid (HX4.out.trans hcur), Lib.hid (HXA4.out.trans hcur)⟩, by simp [intOf]⟩
            · obtain rfl : u = v + 1 := by omega
              go_wp2_with fail
              refine (alive_any _).mono ?_
              rintro e w6 ⟨rfl, hx6⟩
              go_wp2_with fail
              go_ret
              exact ⟨rfl, HX.out.trans hx6⟩
      · have HA := Lib.hid (hA.trans hsm)
        clear hA hsm
        have HNO := Lib.hid hno
        clear hno
        go_enter Try.func13, Try.ntmps13
        go_wp2_with fail
        refine (smallest_any ao len cap p l x w HL.out hc hm HN.out HR.out HXB.out).mono ?_
        rw [HA.out]
        rintro e w1 ⟨ao1, cap1, rfl, hs1, hc1, hm1, hx1⟩
        simp only at hs1 hc1 ⊢
        have HX1 := Lib.hid hx1
        clear hs1 hx1
        go_wp2_with fail
        go_loopw [11, 12, 13, 14, 15, 16, 17, 18, 19, 20] (fun ver _ _ _ _ _ _ _ _ _ wr => ∃ u : Nat, 1 ≤ u ∧ u ≤ 41 ∧ ver = .int .i64 u ∧ Hid (Ext w wr)) (fun ver _ _ _ _ _ _ _ _ _ _ => 41 - (intOf ver).toNat)
        case atStart => exact ⟨1, by omega, by omega, rfl, HX1⟩
        case round =>
          obtain ⟨u, hu1, hu3, rfl, HX⟩ := hrel
          by_cases hlt : u ≤ 40
          · have hu2 : u ≤ 40 := hlt
            have HNOU := Lib.hid (HNO.out u hu1 (by omega))
            have hne : ((u : Int) == 0) = false := by simp; omega
            have HCL := Lib.hid (cl_res u hu1 hu2)
            have HCP : Hid (cpRes u l = ((dataN u l : Int), 0)) := cpRes_3 (by unfold inV; omega) hl1
            have hdb := data_le u l hu1 hu2 hl1
            obtain ⟨dt, hdt⟩ : ∃ dt, dt = dataN u l := ⟨_, rfl⟩
            rw [← hdt] at hdb HCP
            have HDT := Lib.hid hdt
            have hbb := plan_bd (cls u) p.length p rfl
            have hbb2 : (plan (cls u) p).bits ≤ 114688 := by have := HL.out; omega
            obtain ⟨bt, hbt⟩ : ∃ bt, bt = (plan (cls u) p).bits := ⟨_, rfl⟩
            rw [← hbt] at hbb2
            have HBT := Lib.hid hbt
            have hcv := cls_le u
            obtain ⟨cv, hcve⟩ : ∃ cv, cv = cls u := ⟨_, rfl⟩
            have HBE : Hid (bestRes p ((cv : Nat) : Int) = (bestL (cls u) p, (bt : Int), 0)) := by
              refine Lib.hid ?_
              rw [hcve]
              unfold bestRes
              rw [if_neg (by omega), if_neg (by rw [HL.out]; omega), hbt]
              simp
            rw [← hcve] at HCL hcv
            have HCV := Lib.hid hcve
            clear hdt hbt hcve hbb
            go_wp2_with fail
            refine (class_any _ _).mono ?_
            rw [HCL.out]
            rintro e w1 ⟨rfl, rfl⟩
            simp only [two]
            go_wp2_with fail
            refine (best_any ao len cap p cv wr HL.out hc hm HN.out (HR.out.ext HX.out)).mono ?_
            rw [HBE.out]
            rintro e w2 ⟨sao, scap, rfl, hs2, hcl2, hcm2, hx2⟩
            simp only at hs2 hcl2 ⊢
            have HR2 := Lib.hid hx2
            clear hs2 hx2
            go_wp2_with fail
            refine (capacity_any _ _ _).mono ?_
            rw [HCP.out]
            rintro e w3 ⟨rfl, hx3⟩
            simp only [two]
            have HR3 := Lib.hid (HR2.out.trans hx3)
            clear hx3
            have hdk : decide (x ≤ 8 * (dt : Int) - (bt : Int)) = false := by have h := HNOU.out; unfold okV at h; rw [← HDT.out, ← HBT.out] at h; simpa using h
            go_wp2_with fail
            refine ⟨⟨u + 1, by omega, by omega, by rw [Int.natCast_succ], Lib.hid (HX.out.trans HR3.out)⟩, by simp [intOf]; omega⟩
          · go_wp2_with fail
            refine (alive_any _).mono ?_
            rintro e w6 ⟨rfl, hx6⟩
            go_wp2_with fail
            go_ret
            exact ⟨rfl, HX.out.trans hx6⟩

set_option maxRecDepth 100000 in
theorem qrversionFits_lifted (os : Os) (started : os.Started) (H : Type) (enc : TypeId × Value → H) :
    ReturnsInHanded {} Try.checked os 13 .any (Rows.qrversionFitsSpec.pre6 enc Try.prog Try.f13 Rows.qrversionFitsRow.domain false) (Rows.qrversionFitsSpec.post enc Try.prog Try.f13 false true false false) := by
  refine returnsInHanded_of_change (C := Try.checked) Try.own started (by kernel_rfl) Try.func13
    (ChangeSpec.witness6 (enc := enc) (C := Try.checked) false ⟨#[], #[.slice none 0 0, .int .i64 0, .int .i64 0], []⟩ 8 (by kernel_rfl) (by kernel_rfl) (by kernel_rfl) (by kernel_rfl)) ?_
  intro W base args ds gs before hval0 hW _ _
  have hval : ∀ (j : Nat) t v, Try.f13.params[j]? = some t → args[j]? = some v → Value.okWide Try.prog W .any base t v := hval0
  have hW' := hW
  obtain ⟨p, q, hA0, hV, rfl, _, _⟩ := hW
  have hA : DataW.TrodAll enc Try.prog W 0 (fun _ => true) true Try.f13.params.toList args.toList ds p := hA0
  rw [Try.params13] at hA hval
  obtain ⟨rfl, rfl⟩ := trodVars_none hV
  clear hA0 hval0
  simp only [List.append_nil] at hW'
  have hlt : ∀ x ∈ p, x.block < W.heap.size := fun x hx => by simpa using hW'.lt x hx
  have hstay : ∀ W', Below W.heap.size W W' → _ := fun W' hb => args_stay (enc := enc) Try.laidOut hb _ _ _ _ (by kernel_rfl) hA hlt
  obtain ⟨v0, v1, v2, d0, d1, d2, p0, p1, p2, rfl, rfl, rfl, h0, h1, h2⟩ := trodAll_three hA
  obtain ⟨ao0, len0, cap0, rfl⟩ := okWide_slice Try.underlying22 (hval 0 22 v0 rfl rfl)
  obtain ⟨fuel0, hf0⟩ := h0
  obtain ⟨xs0, ao0', len0', cap0', hv0, hl0, hc0, hm0, hn0, hr0⟩ := view_byts Try.underlying22 Try.underlying5 Try.cellsByte hf0
  cases hv0
  obtain ⟨x1, rfl, rfl, rfl, wx1⟩ := open_int Try.underlying23 (hval 1 23 v1 rfl rfl) h1
  obtain ⟨x2, rfl, rfl, rfl, wx2⟩ := open_int Try.underlying3 (hval 2 3 v2 rfl rfl) h2
  refine (qrversionFits_walk ao0 len0 cap0 xs0 x1 x2 W (by rw [length_byts] at hl0; exact hl0) hc0 hm0 hn0 hr0 (wf_i64_bd wx1) (wf_i64_bd wx2)).mono fun e W' ⟨he, hb⟩ => ?_
  subst he
  exact ⟨_, rfl, _, _, _, [], _, [], hW', trodAll_mk1 (shut_bool Try.underlying4 _), hstay W' hb, rfl, hb.frame _, fun h => by cases h⟩

theorem qrversionFits_holds : Rows.QrversionFitsSaid :=
  OpenClaim.holds_of_wide 13 Try.f13 rfl rfl rfl rfl rfl rfl rfl ⟨rfl, rfl, rfl, rfl, rfl⟩ rfl rfl rfl rfl rfl (by kernel_rfl) Try.func13 (by kernel_rfl)
    (of_decide_eq_true (by kernel_rfl)) (by unfold Func.isWrapper; first | (rw [if_pos (by decide +kernel)]; kernel_rfl) | (rw [if_neg (by decide +kernel)]; exact ⟨rfl, rfl⟩))
    (fun os started H enc _ => qrversionFits_lifted os started H enc)


end Go.Proofs.Ythebfpolijajgaa
