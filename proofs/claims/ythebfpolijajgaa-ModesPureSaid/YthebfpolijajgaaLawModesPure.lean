/-
  For every input ModesPure returns true, and each argument reads afterwards as it read before (Rows.ModesPureSaid).
  No condition.
-/
import Derived.Test.YthebfpolijajgaaModeBase
import Derived.Test.YthebfpolijajgaaPurePlain
namespace Go.Proofs.Ythebfpolijajgaa
open Go.RowKit Go.Bs Go.ChangeShapes Go.WideShapes Go.ChangeAt Go.Joins Go.Mode

theorem best_res (p : List UInt8) (k : Nat) (hk : k ≤ 2) (hp : p.length ≤ 4096) : bestRes p k = (bestL k p, ((plan k p).bits : Int), 0) := by
  unfold bestRes
  rw [if_neg (by omega), if_neg (by omega)]
  simp

set_option maxRecDepth 20000 in
set_option maxHeartbeats 2000000 in
theorem modesPure_walk (y x : Int) (b : Bool) (w : World) (hy : 0 ≤ y ∧ y ≤ 255) (hx : 0 ≤ x ∧ x ≤ 255) :
    Calls Try.prog 10 #[.int .u8 y, .int .u8 x, .bool b] w fun e w' => e = .returned (.bool true) ∧ Ext w w' := by
  obtain ⟨k, hk, hk2, hk3⟩ : ∃ k : Nat, x % 3 = k ∧ x.tmod 3 = k ∧ k ≤ 2 := ⟨(x % 3).toNat, by omega, by rw [Int.tmod_eq_emod_of_nonneg hx.1]; omega, by omega⟩
  obtain ⟨n, rfl⟩ : ∃ n : Nat, y = n := ⟨y.toNat, by omega⟩
  have hn : n ≤ 255 := by omega
  by_cases h0 : n = 0
  · subst h0
    go_enter Try.func10, Try.ntmps10
    go_wp2_with fail
    refine (example_any _).mono ?_
    rintro e w6 ⟨rfl, hx6⟩
    go_wp2_with fail
    go_ret
    exact ⟨rfl, hx6⟩
  · have h0' : ((n : Int) == 0) = false := by simp; omega
    have hn1 : 1 ≤ n := by omega
    clear h0
    have hne : ∀ c : UInt8, List.replicate n c ≠ [] := by intro c e; have := congrArg List.length e; simp at this; omega
    have HNE := Lib.hid hne
    clear hne
    cases b
    · have HBR : Hid (bestRes (List.replicate n 52) k = ([(1, List.replicate n 52)], (14 + 2 * (k : Int) + (n : Int) / 3 * 10 + (n : Int) % 3 * 3 + ((n : Int) % 3 + 1) / 2), 0)) := by
        refine Lib.hid ?_
        have hp := plan_digits k hk3 n hn1 hn
        rw [best_res _ k hk3 (by simp; omega), best_one k _ 1 (segB 1 k n) (HNE.out 52) (by rw [hp]; simp), hp]
        have : ((segB 1 k n : Nat) : Int) = 14 + 2 * (k : Int) + (n : Int) / 3 * 10 + (n : Int) % 3 * 3 + ((n : Int) % 3 + 1) / 2 := by
          have hc : cntB 1 k = 10 + 2 * k := by unfold cntB; simp
          unfold segB
          rw [hc]
          simp only [dsize, if_true]
          split
          · omega
          · split <;> omega
        rw [this]
      go_enter Try.func10, Try.ntmps10
      go_wp2_with fail
      generalize (14 + 2 * (k : Int) + (n : Int) / 3 * 10 + (n : Int) % 3 * 3 + ((n : Int) % 3 + 1) / 2) = X at HBR ⊢
      have ee : (X == X) = true := by simp
      skip
      refine (repeated_any 52 n w (by omega)).mono ?_
      intro e w1 hret
      obtain ⟨b1, c1, rfl, h1, hc1, hm1, hn1, hx1⟩ := hret.byts
      clear hret
      rw [List.length_replicate] at hc1 ⊢
      have HR1 := Lib.hid h1
      have HN1 := Lib.hid hn1
      have HX1 := Lib.hid hx1
      clear h1 hn1 hx1
      go_wp2_with fail
      refine (best_any b1 n c1 (List.replicate n 52) k w1 (by simp) hc1 hm1 HN1.out HR1.out).mono ?_
      rw [HBR.out]
      rintro e w2 ⟨ao2, cap2, rfl, hs2, hc2, hm2, hx2⟩
      simp only [List.length_cons, List.length_nil, Nat.zero_add] at hc2 ⊢
      have HS2 := Lib.hid hs2.segs
      have HX2 := Lib.hid (HX1.out.trans hx2)
      have HR2 := Lib.hid (HR1.out.ext hx2)
      clear hs2 hx2
      have cv := run_toString (P := Try.prog) (src := 22) (dst := 9) (c := c1) Try.underlying22 Try.underlying5 Try.underlying9 HR2.out (List.length_replicate ..)
      go_wp2_with fail
      refine (one_any 1 _ w2 (by show (List.replicate n 52).toArray.size ≤ _; simp; omega)).mono ?_
      rintro e w3 ⟨ao3, rfl, hs3, hx3⟩
      have HS3 := Lib.hid hs3.segs
      have HX3 := Lib.hid (HX2.out.trans hx3)
      have HS23 := Lib.hid (HS2.out.ext hx3)
      clear hs3 hx3 cv
      go_wp2_with fail
      refine (ssame_any ao2 ao3 cap2 1 [(1, List.replicate n 52)] w3 (by simp) HS23.out (by simpa using HS3.out)).mono ?_
      rintro e w4 ⟨rfl, hx4⟩
      have HX4 := Lib.hid (HX3.out.trans hx4)
      clear hx4
      go_wp2_with fail
      refine (example_any _).mono ?_
      rintro e w6 ⟨rfl, hx6⟩
      go_wp2_with fail
      go_ret
      exact ⟨rfl, HX4.out.trans hx6⟩
    · by_cases h20 : n < 20
      · go_enter Try.func10, Try.ntmps10
        go_wp2_with fail
        refine (example_any _).mono ?_
        rintro e w6 ⟨rfl, hx6⟩
        go_wp2_with fail
        go_ret
        exact ⟨rfl, hx6⟩
      · have hp := plan_letters k n hn1 hn
        have hd : dsize 4 n = 8 * n := by simp [dsize]
        by_cases hk0 : k = 0
        · subst hk0
          have HBR : Hid (bestRes (List.replicate n 120) ((0 : Nat) : Int) = ([(4, List.replicate n 120)], (4 + 8 * (n : Int) + 8), 0)) := by
            refine Lib.hid ?_
            rw [best_res _ 0 hk3 (by simp; omega), best_one 0 _ 4 (segB 4 0 n) (HNE.out 120) (by rw [hp]; simp), hp]
            have : ((segB 4 0 n : Nat) : Int) = 4 + 8 * (n : Int) + 8 := by
              have hc : cntB 4 0 = 8 := by decide
              unfold segB
              rw [hc, hd]
              omega
            rw [this]
          clear hp hd
          obtain ⟨k, hkz⟩ : ∃ k : Nat, k = 0 := ⟨0, rfl⟩
          rw [← hkz] at HBR hk hk2
          have hkz' : (k : Int) ≤ 0 := by omega
          have HKZ := Lib.hid hkz
          have hk3' : k ≤ 2 := by omega
          clear hkz hk3
          go_enter Try.func10, Try.ntmps10
          go_wp2_with fail
          generalize (4 + 8 * (n : Int) + 8) = X at HBR ⊢
          have ee : (X == X) = true := by simp
          skip
          refine (repeated_any 120 n w (by omega)).mono ?_
          intro e w1 hret
          obtain ⟨b1, c1, rfl, h1, hc1, hm1, hn1, hx1⟩ := hret.byts
          clear hret
          rw [List.length_replicate] at hc1 ⊢
          have HR1 := Lib.hid h1
          have HN1 := Lib.hid hn1
          have HX1 := Lib.hid hx1
          clear h1 hn1 hx1
          go_wp2_with fail
          refine (best_any b1 n c1 (List.replicate n 120) k w1 (by simp) hc1 hm1 HN1.out HR1.out).mono ?_
          rw [HBR.out]
          rintro e w2 ⟨ao2, cap2, rfl, hs2, hc2, hm2, hx2⟩
          simp only [List.length_cons, List.length_nil, Nat.zero_add] at hc2 ⊢
          have HS2 := Lib.hid hs2.segs
          have HX2 := Lib.hid (HX1.out.trans hx2)
          have HR2 := Lib.hid (HR1.out.ext hx2)
          clear hs2 hx2
          have cv := run_toString (P := Try.prog) (src := 22) (dst := 9) (c := c1) Try.underlying22 Try.underlying5 Try.underlying9 HR2.out (List.length_replicate ..)
          go_wp2_with fail
          refine (one_any 4 _ w2 (by show (List.replicate n 120).toArray.size ≤ _; simp; omega)).mono ?_
          rintro e w3 ⟨ao3, rfl, hs3, hx3⟩
          have HS3 := Lib.hid hs3.segs
          have HX3 := Lib.hid (HX2.out.trans hx3)
          have HS23 := Lib.hid (HS2.out.ext hx3)
          clear hs3 hx3 cv
          go_wp2_with fail
          refine (ssame_any ao2 ao3 cap2 1 [(4, List.replicate n 120)] w3 (by simp) HS23.out (by simpa using HS3.out)).mono ?_
          rintro e w4 ⟨rfl, hx4⟩
          have HX4 := Lib.hid (HX3.out.trans hx4)
          clear hx4
          go_wp2_with fail
          refine (example_any _).mono ?_
          rintro e w6 ⟨rfl, hx6⟩
          go_wp2_with fail
          go_ret
          exact ⟨rfl, HX4.out.trans hx6⟩
        · have HBR : Hid (bestRes (List.replicate n 120) (k : Int) = ([(4, List.replicate n 120)], (4 + 8 * (n : Int) + 8 + 8), 0)) := by
            refine Lib.hid ?_
            rw [best_res _ k hk3 (by simp; omega), best_one k _ 4 (segB 4 k n) (HNE.out 120) (by rw [hp]; simp), hp]
            have : ((segB 4 k n : Nat) : Int) = 4 + 8 * (n : Int) + 8 + 8 := by
              have hc : cntB 4 k = 16 := by unfold cntB; simp [hk0]
              unfold segB
              rw [hc, hd]
              omega
            rw [this]
          clear hp hd
          have hkz' : (0 : Int) < (k : Int) := by omega
          go_enter Try.func10, Try.ntmps10
          go_wp2_with fail
          generalize (4 + 8 * (n : Int) + 8 + 8) = X at HBR ⊢
          have ee : (X == X) = true := by simp
          skip
          refine (repeated_any 120 n w (by omega)).mono ?_
          intro e w1 hret
          obtain ⟨b1, c1, rfl, h1, hc1, hm1, hn1, hx1⟩ := hret.byts
          clear hret
          rw [List.length_replicate] at hc1 ⊢
          have HR1 := Lib.hid h1
          have HN1 := Lib.hid hn1
          have HX1 := Lib.hid hx1
          clear h1 hn1 hx1
          go_wp2_with fail
          refine (best_any b1 n c1 (List.replicate n 120) k w1 (by simp) hc1 hm1 HN1.out HR1.out).mono ?_
          rw [HBR.out]
          rintro e w2 ⟨ao2, cap2, rfl, hs2, hc2, hm2, hx2⟩
          simp only [List.length_cons, List.length_nil, Nat.zero_add] at hc2 ⊢
          have HS2 := Lib.hid hs2.segs
          have HX2 := Lib.hid (HX1.out.trans hx2)
          have HR2 := Lib.hid (HR1.out.ext hx2)
          clear hs2 hx2
          have cv := run_toString (P := Try.prog) (src := 22) (dst := 9) (c := c1) Try.underlying22 Try.underlying5 Try.underlying9 HR2.out (List.length_replicate ..)
          go_wp2_with fail
          refine (one_any 4 _ w2 (by show (List.replicate n 120).toArray.size ≤ _; simp; omega)).mono ?_
          rintro e w3 ⟨ao3, rfl, hs3, hx3⟩
          have HS3 := Lib.hid hs3.segs
          have HX3 := Lib.hid (HX2.out.trans hx3)
          have HS23 := Lib.hid (HS2.out.ext hx3)
          clear hs3 hx3 cv
          go_wp2_with fail
          refine (ssame_any ao2 ao3 cap2 1 [(4, List.replicate n 120)] w3 (by simp) HS23.out (by simpa using HS3.out)).mono ?_
          rintro e w4 ⟨rfl, hx4⟩
          have HX4 := Lib.hid (HX3.out.trans hx4)
          clear hx4
          go_wp2_with fail
          refine (example_any _).mono ?_
          rintro e w6 ⟨rfl, hx6⟩
          go_wp2_with fail
          go_ret
          exact ⟨rfl, HX4.out.trans hx6⟩

set_option maxRecDepth 100000 in
theorem modesPure_lifted (os : Os) (started : os.Started) (H : Type) (enc : TypeId × Value → H) :
    ReturnsInHanded {} Try.checked os 10 .any (Rows.modesPureSpec.pre6 enc Try.prog Try.f10 Rows.modesPureRow.domain false) (Rows.modesPureSpec.post enc Try.prog Try.f10 false true false false) := by
  refine returnsInHanded_of_change (C := Try.checked) Try.own started (by kernel_rfl) Try.func10
    (ChangeSpec.witness6 (enc := enc) (C := Try.checked) false ⟨#[], #[.int .u8 0, .int .u8 0, .bool false], []⟩ 8 (by kernel_rfl) (by kernel_rfl) (by kernel_rfl) (by kernel_rfl)) ?_
  intro W base args ds gs before hval0 hW _ _
  have hval : ∀ (j : Nat) t v, Try.f10.params[j]? = some t → args[j]? = some v → Value.okWide Try.prog W .any base t v := hval0
  have hW' := hW
  obtain ⟨p, q, hA0, hV, rfl, _, _⟩ := hW
  have hA : DataW.TrodAll enc Try.prog W 0 (fun _ => true) true Try.f10.params.toList args.toList ds p := hA0
  rw [Try.params10] at hA hval
  obtain ⟨rfl, rfl⟩ := trodVars_none hV
  clear hA0 hval0
  simp only [List.append_nil] at hW'
  have hlt : ∀ x ∈ p, x.block < W.heap.size := fun x hx => by simpa using hW'.lt x hx
  have hstay : ∀ W', Below W.heap.size W W' → _ := fun W' hb => args_stay (enc := enc) Try.laidOut hb _ _ _ _ (by kernel_rfl) hA hlt
  obtain ⟨v0, v1, v2, d0, d1, d2, p0, p1, p2, rfl, rfl, rfl, h0, h1, h2⟩ := trodAll_three hA
  obtain ⟨x0, rfl, rfl, rfl, wx0⟩ := open_int Try.underlying5 (hval 0 5 v0 rfl rfl) h0
  obtain ⟨x1, rfl, rfl, rfl, wx1⟩ := open_int Try.underlying5 (hval 1 5 v1 rfl rfl) h1
  obtain ⟨x2, rfl, rfl, rfl⟩ := open_bool Try.underlying4 (hval 2 4 v2 rfl rfl) h2
  refine (modesPure_walk x0 x1 x2 W (wf_u8_bd wx0) (wf_u8_bd wx1)).mono fun e W' ⟨he, hb⟩ => ?_
  subst he
  exact ⟨_, rfl, _, _, _, [], _, [], hW', trodAll_mk1 (shut_bool Try.underlying4 _), hstay W' hb, rfl, hb.frame _, fun h => by cases h⟩

theorem modesPure_holds : Rows.ModesPureSaid :=
  OpenClaim.holds_of_wide 10 Try.f10 rfl rfl rfl rfl rfl rfl rfl ⟨rfl, rfl, rfl, rfl, rfl⟩ rfl rfl rfl rfl rfl (by kernel_rfl) Try.func10 (by kernel_rfl)
    (of_decide_eq_true (by kernel_rfl)) (by unfold Func.isWrapper; first | (rw [if_pos (by decide +kernel)]; kernel_rfl) | (rw [if_neg (by decide +kernel)]; exact ⟨rfl, rfl⟩))
    (fun os started H enc _ => modesPure_lifted os started H enc)


end Go.Proofs.Ythebfpolijajgaa
