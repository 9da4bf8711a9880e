/-
  For every input ModesBits returns true, and each argument reads afterwards as it read before (Rows.ModesBitsSaid).
  No condition.
-/
import Derived.Test.YthebfpolijajgaaExB
import Derived.Test.YthebfpolijajgaaMinPlain
import Derived.Test.YthebfpolijajgaaModeK
import Derived.Deep.RegionHeld3
namespace Go.Proofs.Ythebfpolijajgaa
open Go.RowKit Go.Bs Go.ChangeShapes Go.WideShapes Go.ChangeAt Go.Joins Go.Mode

theorem joinL_small (l : List SegD) (h : smallB l = true) : (joinL l).length ≤ 6000 := by
  unfold smallB at h
  rw [Bool.and_eq_true, decide_eq_true_iff, List.all_eq_true] at h
  have key : ∀ (m : List SegD), (∀ q ∈ m, decide (q.2.length ≤ 150) = true) → (joinL m).length ≤ 150 * m.length := by
    intro m
    induction m with
    | nil => intro _; simp [joinL]
    | cons q m ih =>
      intro hm
      have h1 := ih (fun x hx => hm x (List.mem_cons_of_mem _ hx))
      have h2 := of_decide_eq_true (hm q (by simp))
      have hj : joinL (q :: m) = q.2 ++ joinL m := rfl
      rw [hj, List.length_append, List.length_cons]
      omega
  have := key l h.2
  omega

theorem wpAnyH_mono {P : Program} {md : Region.Mode} {ops : Array Oper} {Q : Exit → Act → World → Prop} {S S' : World → Prop} (hs : ∀ w, S' w → S w) :
    ∀ (fuel : Nat) (listed : Array Bool) (a : Act) (w : World), wpAnyH P md ops Q S' fuel listed a w → wpAnyH P md ops Q S fuel listed a w
  | 0, _, _, _, h => h
  | fuel + 1, _, _, _, h => ⟨h.1, fun i hi => wpOp_mono (fun a' w' h' => ⟨hs w' h'.1, wpAnyH_mono hs fuel _ a' w' h'.2⟩) (h.2 i hi)⟩







set_option maxRecDepth 20000 in
set_option maxHeartbeats 2000000 in
theorem modesBits_walk (ao : Option Addr) (len cap : Nat) (l : List SegD) (k : Int) (w : World) (hl : l.length = len) (hc : len ≤ cap) (hm : cap ≤ 9223372036854775807) (hr : Segs w ao l) (_ : ∀ q ∈ l, -9223372036854775808 ≤ q.1 ∧ q.1 ≤ 9223372036854775807) (_ : -9223372036854775808 ≤ k ∧ k ≤ 9223372036854775807) :
    Calls Try.prog 11 #[.slice ao len cap, .int .i64 k] w fun e w' => e = .returned (.bool true) ∧ Ext w w' := by
  subst hl
  have HR := Lib.hid hr
  clear hr
  obtain ⟨n, hn⟩ : ∃ n, n = l.length := ⟨_, rfl⟩
  have HSM := Lib.hid (small_any ao cap l w (by omega) HR.out)
  have HJN := fun (W : World) (h : Ext w W) (hj : (joinL l).length ≤ 70368744177664) => Lib.hid (join_any ao cap l W (by omega) (HR.out.ext h) hj)
  have HRJ := fun (W : World) (h : Ext w W) (hj : (joinL l).length ≤ 70368744177664) => Lib.hid (rjoin_any ao cap l W (by omega) (HR.out.ext h) hj)
  rw [← hn] at HSM HJN HRJ hc ⊢
  have HN := Lib.hid hn
  clear hn
  cases hs : smallB l
  · rw [hs] at HSM
    clear hs
    go_enter Try.func11, Try.ntmps11
    go_wp2_with fail
    refine HSM.out.mono ?_
    rintro e w1 ⟨rfl, rfl⟩
    go_wp2_with fail
    refine (example_any _).mono ?_
    rintro e w6 ⟨rfl, hx6⟩
    go_wp2_with fail
    go_ret
    exact ⟨rfl, hx6⟩
  · rw [hs] at HSM
    have hjl := joinL_small l hs
    clear hs
    have HJN2 := fun (W : World) (h : Ext w W) => HJN W h (by omega)
    have HRJ2 := fun (W : World) (h : Ext w W) => HRJ W h (by omega)
    clear HJN HRJ hjl
    obtain ⟨A, hA⟩ : ∃ r, r = bitsRes l k := ⟨_, rfl⟩
    have HA := Lib.hid hA
    obtain ⟨B, hB⟩ : ∃ r, r = encRes l k := ⟨_, rfl⟩
    have hel := enc_len l k
    rw [← hB] at hel
    have HB := Lib.hid hB
    clear hA hB
    obtain ⟨T, E⟩ := A
    obtain ⟨zs, F⟩ := B
    simp only at hel
    obtain ⟨J, hJ⟩ : ∃ J, J = joinL l := ⟨_, rfl⟩
    rw [← hJ] at HJN2 HRJ2
    clear hJ
    go_enter Try.func11, Try.ntmps11
    go_wp2_with fail
    refine HSM.out.mono ?_
    rintro e w1 ⟨rfl, rfl⟩
    go_wp2_with fail
    refine (bits_any ao n cap l k w HN.out.symm hc hm HR.out).mono ?_
    rw [← HA.out]
    rintro e w1 ⟨rfl, hx1⟩
    simp only [two]
    have HX1 := Lib.hid hx1
    clear hx1
    go_wp2_with fail
    refine (rbits_any ao n cap l k w1 HN.out.symm hc hm (HR.out.ext HX1.out)).mono ?_
    rw [← HA.out]
    rintro e w2 ⟨rfl, hx2⟩
    simp only [two]
    have HX2 := Lib.hid (HX1.out.trans hx2)
    clear hx2
    go_wp2_with fail
    refine (encode_any ao n cap l k w2 HN.out.symm hc hm (HR.out.ext HX2.out)).mono ?_
    rw [← HB.out]
    intro e w3 hret
    obtain ⟨b3, c3, rfl, h3, _, _, _, hx3⟩ := hret.bools
    clear hret
    have HX3 := Lib.hid (HX2.out.trans hx3)
    clear hx3
    go_wp2_with fail
    refine (rencode_any ao n cap l k w3 HN.out.symm hc hm (HR.out.ext HX3.out)).mono ?_
    rw [← HB.out]
    intro e w4 hret
    obtain ⟨b4, c4, rfl, h4, _, _, _, hx4⟩ := hret.bools
    clear hret
    replace h3 := h3.ext hx4
    have HX4 := Lib.hid (HX3.out.trans hx4)
    clear hx4
    have e1 : (T == T) = true := by simp
    have e2 : (E == E) = true := by simp
    have e3 : (F == F) = true := by simp
    have hx04 := HX4.out
    go_wp2_with fail
    have HCV := fun (b : Option Addr) (c : Nat) (W0 W : World) (h : Row W0 b (byts J)) (hW : Ext W0 W) => Lib.hid (run_toString (P := Try.prog) (src := 22) (dst := 9) (c := c) Try.underlying22 Try.underlying5 Try.underlying9 (h.ext hW) rfl)
    refine wp_region_held_drew (S := fun W => Ext w4 W) (by kernel_rfl) (Ext.drew _) (fun hHeld => ?_)
    skip
    refine wpAnyH_take (i := 0) (v := ?_) rfl (by kernel_rfl) (by kernel_rfl) (by kernel_rfl) (fun _ _ _ h => h) (Or.inl ⟨by rfl, ?_⟩) (by assumption) ?_
    rotate_left
    · (intro w hSw; try dsimp only at hSw); go_simp; try with_reducible rfl
    simp only [List.getElem_toArray, List.getElem_cons_zero, Act.put, List.setIfInBounds_toArray, List.set_cons_zero, List.set_cons_succ]
    skip
    refine wpAnyH_take (i := 1) (v := ?_) rfl (by kernel_rfl) (by kernel_rfl) (by kernel_rfl) (fun _ _ _ h => h) (Or.inl ⟨by rfl, ?_⟩) (by assumption) ?_
    rotate_left
    · (intro w hSw; try dsimp only at hSw); go_simp; try with_reducible rfl
    simp only [List.getElem_toArray, List.getElem_cons_zero, List.getElem_cons_succ, Act.put, List.setIfInBounds_toArray, List.set_cons_zero, List.set_cons_succ]
    skip
    refine wpAnyH_take (i := 2) (v := ?_) rfl (by kernel_rfl) (by kernel_rfl) (by kernel_rfl) (fun _ _ _ h => h) (Or.inl ⟨by rfl, ?_⟩) (by assumption) ?_
    rotate_left
    · (intro w hSw; try dsimp only at hSw); go_simp; try with_reducible rfl
    simp only [List.getElem_toArray, List.getElem_cons_zero, List.getElem_cons_succ, Act.put, List.setIfInBounds_toArray, List.set_cons_zero, List.set_cons_succ]
    skip
    refine wpAnyH_take (i := 3) (v := ?_) rfl (by kernel_rfl) (by kernel_rfl) (by kernel_rfl) (fun _ _ _ h => h) (Or.inl ⟨by rfl, ?_⟩) (by assumption) ?_
    rotate_left
    · (intro w hSw; try dsimp only at hSw); go_simp; try with_reducible rfl
    simp only [List.getElem_toArray, List.getElem_cons_zero, List.getElem_cons_succ, Act.put, List.setIfInBounds_toArray, List.set_cons_zero, List.set_cons_succ]
    skip
    refine wpAnyH_take (i := 4) (v := ?_) rfl (by kernel_rfl) (by kernel_rfl) (by kernel_rfl) (fun _ _ _ h => h) (Or.inl ⟨by rfl, ?_⟩) (by assumption) ?_
    rotate_left
    · (intro w hSw; try dsimp only at hSw); go_simp; try with_reducible rfl
    simp only [List.getElem_toArray, List.getElem_cons_zero, List.getElem_cons_succ, Act.put, List.setIfInBounds_toArray, List.set_cons_zero, List.set_cons_succ]
    skip
    refine wpAnyH_take (i := 5) (v := ?_) rfl (by kernel_rfl) (by kernel_rfl) (by kernel_rfl) (fun _ _ _ h => h) (Or.inl ⟨by rfl, ?_⟩) (by assumption) ?_
    rotate_left
    · (intro w hSw; try dsimp only at hSw); go_simp; try with_reducible rfl
    simp only [List.getElem_toArray, List.getElem_cons_zero, List.getElem_cons_succ, Act.put, List.setIfInBounds_toArray, List.set_cons_zero, List.set_cons_succ]
    skip
    refine wpAnyH_take (i := 6) (v := ?_) rfl (by kernel_rfl) (by kernel_rfl) (by kernel_rfl) (fun _ _ _ h => h) (Or.inl ⟨by rfl, ?_⟩) (by assumption) ?_
    rotate_left
    · (intro w hSw; try dsimp only at hSw); go_simp; try with_reducible rfl
    simp only [List.getElem_toArray, List.getElem_cons_zero, List.getElem_cons_succ, Act.put, List.setIfInBounds_toArray, List.set_cons_zero, List.set_cons_succ]
    skip
    refine wpAnyH_take (i := 7) (v := ?_) rfl (by kernel_rfl) (by kernel_rfl) (by kernel_rfl) (fun _ _ _ h => h) (Or.inl ⟨by rfl, ?_⟩) (by assumption) ?_
    rotate_left
    · (intro w hSw; try dsimp only at hSw); go_simp; try with_reducible rfl
    simp only [List.getElem_toArray, List.getElem_cons_zero, List.getElem_cons_succ, Act.put, List.setIfInBounds_toArray, List.set_cons_zero, List.set_cons_succ]
    skip
    refine wpAnyH_take (i := 8) (v := ?_) rfl (by kernel_rfl) (by kernel_rfl) (by kernel_rfl) (fun _ _ _ h => h) (Or.inl ⟨by rfl, ?_⟩) (by assumption) ?_
    rotate_left
    · (intro w hSw; try dsimp only at hSw); go_simp; try with_reducible rfl
    simp only [List.getElem_toArray, List.getElem_cons_zero, List.getElem_cons_succ, Act.put, List.setIfInBounds_toArray, List.set_cons_zero, List.set_cons_succ]
    skip
    refine wpAnyH_take (i := 9) (v := ?_) rfl (by kernel_rfl) (by kernel_rfl) (by kernel_rfl) (fun _ _ _ h => h) (Or.inl ⟨by rfl, ?_⟩) (by assumption) ?_
    rotate_left
    · (intro w hSw; try dsimp only at hSw); go_simp; try with_reducible rfl
    simp only [List.getElem_toArray, List.getElem_cons_zero, List.getElem_cons_succ, Act.put, List.setIfInBounds_toArray, List.set_cons_zero, List.set_cons_succ]
    skip
    refine wpAnyH_take (i := 10) (v := ?_) rfl (by kernel_rfl) (by kernel_rfl) (by kernel_rfl) (fun _ _ _ h => h) (Or.inl ⟨by rfl, ?_⟩) (by assumption) ?_
    rotate_left
    · (intro w hSw; try dsimp only at hSw); go_simp; try with_reducible rfl
    simp only [List.getElem_toArray, List.getElem_cons_zero, List.getElem_cons_succ, Act.put, List.setIfInBounds_toArray, List.set_cons_zero, List.set_cons_succ]
    refine wpAnyH_ready (rs := [11]) (by kernel_rfl) (by simp) ?_
    refine AllReadyH.cons rfl (fun K hK => ?_) AllReadyH.nil
    go_simp
    go_at_call 33
    (with_reducible refine (same_any _ _ _ _ _ _ zs zs _ rfl rfl (by omega) (h3.ext hHeld) (h4.ext hHeld)).mono ?_)
    rw [show (zs == zs) = true from by simp]
    rintro e w5 ⟨rfl, hx5⟩
    have hcur := hHeld.trans hx5
    clear hHeld hx5
    go_wp2_with fail
    refine hK.out _ _ hcur (fun hHeld5 => ?_)
    clear hK K
    skip
    refine wpAnyH_take (i := 12) (v := ?_) rfl (by kernel_rfl) (by kernel_rfl) (by kernel_rfl) (fun _ _ _ h => h) (Or.inl ⟨by rfl, ?_⟩) (by assumption) ?_
    rotate_left
    · (intro w hSw; try dsimp only at hSw); go_simp; try with_reducible rfl
    simp only [List.getElem_toArray, List.getElem_cons_zero, List.getElem_cons_succ, Act.put, List.setIfInBounds_toArray, List.set_cons_zero, List.set_cons_succ]
    skip
    refine wpAnyH_take (i := 13) (v := ?_) rfl (by kernel_rfl) (by kernel_rfl) (by kernel_rfl) (fun _ _ _ h => h) (Or.inl ⟨by rfl, ?_⟩) (by assumption) ?_
    rotate_left
    · (intro w hSw; try dsimp only at hSw); go_simp; try with_reducible rfl
    simp only [List.getElem_toArray, List.getElem_cons_zero, List.getElem_cons_succ, Act.put, List.setIfInBounds_toArray, List.set_cons_zero, List.set_cons_succ]
    skip
    refine wpAnyH_take (i := 14) (v := ?_) rfl (by kernel_rfl) (by kernel_rfl) (by kernel_rfl) (fun _ _ _ h => h) (Or.inl ⟨by rfl, ?_⟩) (by assumption) ?_
    rotate_left
    · (intro w hSw; try dsimp only at hSw); go_simp; try with_reducible rfl
    simp only [List.getElem_toArray, List.getElem_cons_zero, List.getElem_cons_succ, Act.put, List.setIfInBounds_toArray, List.set_cons_zero, List.set_cons_succ]
    skip
    refine wpAnyH_take (i := 15) (v := ?_) rfl (by kernel_rfl) (by kernel_rfl) (by kernel_rfl) (fun _ _ _ h => h) (Or.inl ⟨by rfl, ?_⟩) (by assumption) ?_
    rotate_left
    · (intro w hSw; try dsimp only at hSw); go_simp; try with_reducible rfl
    simp only [List.getElem_toArray, List.getElem_cons_zero, List.getElem_cons_succ, Act.put, List.setIfInBounds_toArray, List.set_cons_zero, List.set_cons_succ]
    skip
    refine wpAnyH_take (i := 16) (v := ?_) rfl (by kernel_rfl) (by kernel_rfl) (by kernel_rfl) (fun _ _ _ h => h) (Or.inl ⟨by rfl, ?_⟩) (by assumption) ?_
    rotate_left
    · (intro w hSw; try dsimp only at hSw); go_simp; try with_reducible rfl
    simp only [List.getElem_toArray, List.getElem_cons_zero, List.getElem_cons_succ, Act.put, List.setIfInBounds_toArray, List.set_cons_zero, List.set_cons_succ]
    skip
    refine wpAnyH_take (i := 17) (v := ?_) rfl (by kernel_rfl) (by kernel_rfl) (by kernel_rfl) (fun _ _ _ h => h) (Or.inl ⟨by rfl, ?_⟩) (by assumption) ?_
    rotate_left
    · (intro w hSw; try dsimp only at hSw); go_simp; try with_reducible rfl
    simp only [List.getElem_toArray, List.getElem_cons_zero, List.getElem_cons_succ, Act.put, List.setIfInBounds_toArray, List.set_cons_zero, List.set_cons_succ]
    skip
    refine wpAnyH_take (i := 18) (v := ?_) rfl (by kernel_rfl) (by kernel_rfl) (by kernel_rfl) (fun _ _ _ h => h) (Or.inl ⟨by rfl, ?_⟩) (by assumption) ?_
    rotate_left
    · (intro w hSw; try dsimp only at hSw); go_simp; try with_reducible rfl
    simp only [List.getElem_toArray, List.getElem_cons_zero, List.getElem_cons_succ, Act.put, List.setIfInBounds_toArray, List.set_cons_zero, List.set_cons_succ]
    skip
    refine wpAnyH_take (i := 19) (v := ?_) rfl (by kernel_rfl) (by kernel_rfl) (by kernel_rfl) (fun _ _ _ h => h) (Or.inl ⟨by rfl, ?_⟩) (by assumption) ?_
    rotate_left
    · (intro w hSw; try dsimp only at hSw); go_simp; try with_reducible rfl
    simp only [List.getElem_toArray, List.getElem_cons_zero, List.getElem_cons_succ, Act.put, List.setIfInBounds_toArray, List.set_cons_zero, List.set_cons_succ]
    skip
    refine wpAnyH_take (i := 22) (v := ?_) rfl (by kernel_rfl) (by kernel_rfl) (by kernel_rfl) (fun _ _ _ h => h) (Or.inl ⟨by rfl, ?_⟩) (by assumption) ?_
    rotate_left
    · (intro w hSw; try dsimp only at hSw); go_simp; try with_reducible rfl
    simp only [List.getElem_toArray, List.getElem_cons_zero, List.getElem_cons_succ, Act.put, List.setIfInBounds_toArray, List.set_cons_zero, List.set_cons_succ]
    refine wpAnyH_ready (rs := [20]) (by kernel_rfl) (by simp) ?_
    refine AllReadyH.cons rfl (fun K hK => ?_) AllReadyH.nil
    go_simp
    skip
    go_at_call 34
    (with_reducible refine (HJN2 _ (hx04.trans hHeld5)).out.mono ?_)
    intro e w6 hret
    obtain ⟨b6, c6, rfl, h6, _, _, _, hx6⟩ := hret.byts
    clear hret
    go_wp2_with fail
    skip
    have hcur6 := hHeld5.trans hx6
    refine hK.out _ _ hcur6 (fun _ => ?_)
    clear hK K
    have hH6 : Ext w6 w6 := Ext.refl _
    have cv6 := fun (W : World) (h : Ext w6 W) => (HCV b6 c6 w6 W h6 h).out
    refine wpAnyH_mono (S' := fun W => Ext w6 W) (fun W h => hcur6.trans h) _ _ _ _ ?_
    skip
    refine wpAnyH_take (i := 21) (v := ?_) rfl (by kernel_rfl) (by kernel_rfl) (by kernel_rfl) (fun _ _ _ h => h) (Or.inl ⟨by rfl, ?_⟩) (by assumption) ?_
    rotate_left
    · (intro w hSw; try dsimp only at hSw); go_simp; try with_reducible rfl
    simp only [List.getElem_toArray, List.getElem_cons_zero, List.getElem_cons_succ, Act.put, List.setIfInBounds_toArray, List.set_cons_zero, List.set_cons_succ]
    refine wpAnyH_ready (rs := [23]) (by kernel_rfl) (by simp) ?_
    refine AllReadyH.cons rfl (fun K hK => ?_) AllReadyH.nil
    go_simp
    skip
    go_at_call 30
    (with_reducible refine (HRJ2 _ (hx04.trans (hcur6.trans hH6))).out.mono ?_)
    intro e w7 hret
    obtain ⟨b7, c7, rfl, h7, _, _, _, hx7⟩ := hret.byts
    clear hret
    go_wp2_with fail
    skip
    have hcur7 := hcur6.trans hx7
    refine hK.out _ _ hx7 (fun _ => ?_)
    clear hK K
    have hH7 : Ext w7 w7 := Ext.refl _
    have cv7 := fun (W : World) (h : Ext w7 W) => (HCV b7 c7 w7 W h7 h).out
    refine wpAnyH_mono (S' := fun W => Ext w7 W) (fun W h => hx7.trans h) _ _ _ _ ?_
    skip
    refine wpAnyH_take (i := 24) (v := ?_) rfl (by kernel_rfl) (by kernel_rfl) (by kernel_rfl) (fun _ _ _ h => h) (Or.inl ⟨by rfl, ?_⟩) (by assumption) ?_
    rotate_left
    · (intro w hSw; try dsimp only at hSw); go_simp; try with_reducible rfl
    simp only [List.getElem_toArray, List.getElem_cons_zero, List.getElem_cons_succ, Act.put, List.setIfInBounds_toArray, List.set_cons_zero, List.set_cons_succ]
    skip
    skip
    refine wpAnyH_take (i := 25) (v := ?_) rfl (by kernel_rfl) (by kernel_rfl) (by kernel_rfl) (fun _ _ _ h => h) (Or.inl ⟨by rfl, ?_⟩) (by assumption) ?_
    rotate_left
    · (intro w hSw; try dsimp only at hSw); go_simp; try with_reducible rfl
    simp only [List.getElem_toArray, List.getElem_cons_zero, List.getElem_cons_succ, Act.put, List.setIfInBounds_toArray, List.set_cons_zero, List.set_cons_succ]
    skip
    refine wpAnyH_take (i := 26) (v := ?_) rfl (by kernel_rfl) (by kernel_rfl) (by kernel_rfl) (fun _ _ _ h => h) (Or.inl ⟨by rfl, ?_⟩) (by assumption) ?_
    rotate_left
    · (intro w hSw; try dsimp only at hSw); go_simp; try with_reducible rfl
    simp only [List.getElem_toArray, List.getElem_cons_zero, List.getElem_cons_succ, Act.put, List.setIfInBounds_toArray, List.set_cons_zero, List.set_cons_succ]
    skip
    refine wpAnyH_take (i := 27) (v := ?_) rfl (by kernel_rfl) (by kernel_rfl) (by kernel_rfl) (fun _ _ _ h => h) (Or.inl ⟨by rfl, ?_⟩) (by assumption) ?_
    rotate_left
    · (intro w hSw; try dsimp only at hSw); go_simp; try with_reducible rfl
    simp only [List.getElem_toArray, List.getElem_cons_zero, List.getElem_cons_succ, Act.put, List.setIfInBounds_toArray, List.set_cons_zero, List.set_cons_succ]
    refine wpAnyH_ready (rs := [28]) (by kernel_rfl) (by simp) ?_
    refine AllReadyH.cons rfl (fun K hK => ?_) AllReadyH.nil
    go_simp
    go_at_call 20
    (with_reducible refine (example_any _).mono ?_)
    rintro e w8 ⟨rfl, hx8⟩
    go_wp2_with fail
    refine hK.out _ _ hx8 (fun _ => ?_)
    clear hK K
    have hcur8 := hcur7.trans hx8
    skip
    refine wpAnyH_take (i := 29) (v := ?_) rfl (by kernel_rfl) (by kernel_rfl) (by kernel_rfl) (fun _ _ _ h => h) (Or.inl ⟨by rfl, ?_⟩) (by assumption) ?_
    rotate_left
    · (intro w hSw; try dsimp only at hSw); go_simp; try with_reducible rfl
    simp only [List.getElem_toArray, List.getElem_cons_zero, List.getElem_cons_succ, Act.put, List.setIfInBounds_toArray, List.set_cons_zero, List.set_cons_succ]
    skip
    refine wpAnyH_take (i := 30) (v := ?_) rfl (by kernel_rfl) (by kernel_rfl) (by kernel_rfl) (fun _ _ _ h => h) (Or.inl ⟨by rfl, ?_⟩) (by assumption) ?_
    rotate_left
    · (intro w hSw; try dsimp only at hSw); go_simp; try with_reducible rfl
    simp only [List.getElem_toArray, List.getElem_cons_zero, List.getElem_cons_succ, Act.put, List.setIfInBounds_toArray, List.set_cons_zero, List.set_cons_succ]
    refine wpAnyH_done (by kernel_rfl) ?_ _
    go_wp2_with fail
    go_ret
    exact ⟨rfl, hx04.trans hcur8⟩

set_option maxRecDepth 100000 in
theorem modesBits_lifted (os : Os) (started : os.Started) (H : Type) (enc : TypeId × Value → H) :
    ReturnsInHanded {} Try.checked os 11 .any (Rows.modesBitsSpec.pre6 enc Try.prog Try.f11 Rows.modesBitsRow.domain false) (Rows.modesBitsSpec.post enc Try.prog Try.f11 false true false false) := by
  refine returnsInHanded_of_change (C := Try.checked) Try.own started (by kernel_rfl) Try.func11
    (ChangeSpec.witness6 (enc := enc) (C := Try.checked) false ⟨#[], #[.slice none 0 0, .int .i64 0], []⟩ 8 (by kernel_rfl) (by kernel_rfl) (by kernel_rfl) (by kernel_rfl)) ?_
  intro W base args ds gs before hval0 hW _ _
  have hval : ∀ (j : Nat) t v, Try.f11.params[j]? = some t → args[j]? = some v → Value.okWide Try.prog W .any base t v := hval0
  have hW' := hW
  obtain ⟨p, q, hA0, hV, rfl, _, _⟩ := hW
  have hA : DataW.TrodAll enc Try.prog W 0 (fun _ => true) true Try.f11.params.toList args.toList ds p := hA0
  rw [Try.params11] at hA hval
  obtain ⟨rfl, rfl⟩ := trodVars_none hV
  clear hA0 hval0
  simp only [List.append_nil] at hW'
  have hlt : ∀ x ∈ p, x.block < W.heap.size := fun x hx => by simpa using hW'.lt x hx
  have hstay : ∀ W', Below W.heap.size W W' → _ := fun W' hb => args_stay (enc := enc) Try.laidOut hb _ _ _ _ (by kernel_rfl) hA hlt
  obtain ⟨v0, v1, d0, d1, p0, p1, rfl, rfl, rfl, h0, h1⟩ := trodAll_two hA
  obtain ⟨fuel0, hf0⟩ := h0
  obtain ⟨aq0, lq0, cq0, rfl⟩ := okWide_slice Try.underlying25 (hval 0 25 v0 rfl rfl)
  obtain ⟨sl0, ao0, len0, cap0, hv0, hl0, hc0, hm0, hr0, hw0⟩ := view_segs Try.underlying25 Try.underlying33 Try.underlying31 (by kernel_rfl) (by kernel_rfl) Try.underlying22 Try.underlying5 (by kernel_rfl) (by kernel_rfl) rfl rfl rfl rfl hf0
  cases hv0
  obtain ⟨x1, rfl, rfl, rfl, wx1⟩ := open_int Try.underlying3 (hval 1 3 v1 rfl rfl) h1
  refine (modesBits_walk aq0 lq0 cq0 sl0 x1 W hl0 hc0 hm0 hr0 (fun q hq => wf_i64_bd (hw0 q hq)) (wf_i64_bd wx1)).mono fun e W' ⟨he, hb⟩ => ?_
  subst he
  exact ⟨_, rfl, _, _, _, [], _, [], hW', trodAll_mk1 (shut_bool Try.underlying4 _), hstay W' hb, rfl, hb.frame _, fun h => by cases h⟩

theorem modesBits_holds : Rows.ModesBitsSaid :=
  OpenClaim.holds_of_wide 11 Try.f11 rfl rfl rfl rfl rfl rfl rfl ⟨rfl, rfl, rfl, rfl, rfl⟩ rfl rfl rfl rfl rfl (by kernel_rfl) Try.func11 (by kernel_rfl)
    (of_decide_eq_true (by kernel_rfl)) (by unfold Func.isWrapper; first | (rw [if_pos (by decide +kernel)]; kernel_rfl) | (rw [if_neg (by decide +kernel)]; exact ⟨rfl, rfl⟩))
    (fun os started H enc _ => modesBits_lifted os started H enc)


end Go.Proofs.Ythebfpolijajgaa
