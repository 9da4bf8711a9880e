/-
  For every input ModesMonotone returns true, and each argument reads afterwards as it read before (Rows.ModesMonotoneSaid).
  No condition.
-/
import Derived.Test.YthebfpolijajgaaModeBase
import Derived.Test.YthebfpolijajgaaMinPlain
namespace Go.Proofs.Ythebfpolijajgaa
open Go.RowKit Go.Bs Go.ChangeShapes Go.WideShapes Go.ChangeAt Go.Joins Go.Mode

theorem best_res (p : List UInt8) (k : Nat) (hk : k ≤ 2) (hp : p.length ≤ 4096) : bestRes p k = (bestL k p, ((plan k p).bits : Int), 0) := by
  unfold bestRes
  rw [if_neg (by omega), if_neg (by omega)]
  simp
theorem planb_le (k : Nat) (p : List UInt8) (hp : p.length ≤ 4096) : (plan k p).bits ≤ 114688 := by
  have := (plan_bd k p.length p rfl).1
  omega

set_option maxRecDepth 20000 in
set_option maxHeartbeats 1000000 in
theorem modesMonotone_walk (ao : Option Addr) (len cap : Nat) (p : List UInt8) (bo : Option Addr) (lb cb : Nat) (q : List UInt8) (x : Int) (w : World) (hl : p.length = len) (hc : len ≤ cap) (hm : cap ≤ 9223372036854775807) (hn : ao = none → cap = 0) (hr : Row w ao (byts p))
    (hl2 : q.length = lb) (hc2 : lb ≤ cb) (hm2 : cb ≤ 9223372036854775807) (hn2 : bo = none → cb = 0) (hr2 : Row w bo (byts q)) (hx : 0 ≤ x ∧ x ≤ 255) :
    Calls Try.prog 9 #[.slice ao len cap, .slice bo lb cb, .int .u8 x] w fun e w' => e = .returned (.bool true) ∧ Ext w w' := by
  obtain ⟨k, hk, hk2, hk3⟩ : ∃ k : Nat, x % 3 = k ∧ x.tmod 3 = k ∧ k ≤ 2 := ⟨(x % 3).toNat, by omega, by rw [Int.tmod_eq_emod_of_nonneg hx.1]; omega, by omega⟩
  have HL := Lib.hid hl
  have HN := Lib.hid hn
  have HR := Lib.hid hr
  have HL2 := Lib.hid hl2
  have HN2 := Lib.hid hn2
  have HR2 := Lib.hid hr2
  clear hl hn hr hl2 hn2 hr2
  by_cases hbig : 200 < len
  · go_enter Try.func9, Try.ntmps9
    go_wp2_with fail
    refine (example_any _).mono ?_
    rintro e w6 ⟨rfl, hx6⟩
    go_wp2_with fail
    go_ret
    exact ⟨rfl, hx6⟩
  · by_cases hbig2 : 200 < lb
    · go_enter Try.func9, Try.ntmps9
      go_wp2_with fail
      refine (example_any _).mono ?_
      rintro e w6 ⟨rfl, hx6⟩
      go_wp2_with fail
      go_ret
      exact ⟨rfl, hx6⟩
    · have hA := planb_le k p (by rw [HL.out]; omega)
      have hB := planb_le k q (by rw [HL2.out]; omega)
      have hC := planb_le k (p ++ q) (by rw [List.length_append, HL.out, HL2.out]; omega)
      have h1 := plan_grows k p.length p q (Nat.le_refl _)
      have h2 := plan_sum k p.length p q (Nat.le_refl _)
      have HRA := Lib.hid (best_res p k hk3 (by rw [HL.out]; omega))
      have HRB := Lib.hid (best_res q k hk3 (by rw [HL2.out]; omega))
      have HRC := Lib.hid (best_res (p ++ q) k hk3 (by rw [List.length_append, HL.out, HL2.out]; omega))
      generalize (plan k p).bits = a at hA h1 h2 HRA
      generalize (plan k q).bits = b at hB h2 HRB
      generalize (plan k (p ++ q)).bits = c at hC h1 h2 HRC
      go_enter Try.func9, Try.ntmps9
      go_wp2_with (first
        | ((with_reducible show wpList _ _ _ (⟨some 32, _, _, _, _, _⟩ :: _) _ _); refine wpList_app rfl _ _ 22 rfl w.heap.size 5 (.int .u8 0) 1 1 Try.infoByte rfl (by decide) Try.underlying22 _ rfl 0 [] (World.ownsRow_nil _ _ _ _) _ _ _ rfl (byts p) HR.out (by rw [length_byts, HL.out]; omega) HN.out (byts_oneCell _) (by omega) (by omega) (Nat.le_refl _) ?_; intro s1 w1 hown1 hk1)
        | ((with_reducible show wpList _ _ _ (⟨some 35, _, _, _, _, _⟩ :: _) _ _); refine wpList_app rfl _ _ 22 rfl w.heap.size 5 (.int .u8 0) 1 1 Try.infoByte rfl (by decide) Try.underlying22 _ rfl _ _ hown1 _ _ _ rfl (byts q) (HR2.out.ext (hk1.toExt rfl)) (by rw [length_byts, HL2.out]; omega) HN2.out (byts_oneCell _) (by omega) (by omega) (hk1.toExt rfl).size ?_; intro s2 w2 hown2 hk2'))
      have hxA : Ext w w1 := hk1.toExt rfl
      have hx2 : Ext w w2 := Below.trans hxA (hk2'.below hxA.size (fun k' h' => (hown1.lt k' h').1))
      have hown3 : w2.ownsRow w.heap.size 5 1 s2 (len + lb) (byts (p ++ q)) := by
        rw [byts_append]
        simpa using hown2
      obtain ⟨so, sc, rfl, hso, hsm, _, hsr⟩ := own_row hown3
      have HSN := Lib.hid (own_nil' hown3)
      have HSR := Lib.hid hsr
      have hsm' : sc ≤ 9223372036854775807 := by unfold maxLen at hsm; omega
      clear hown1 hown2 hk1 hk2' hown3 hsr hxA hsm
      have HX2 := Lib.hid hx2
      clear hx2
      refine (best_any ao len cap p k w2 HL.out hc hm HN.out (HR.out.ext HX2.out)).mono ?_
      rw [HRA.out]
      rintro e w3 ⟨ao3, cap3, rfl, _, hc3, hm3, hx3⟩
      simp only at hc3 ⊢
      have HX3 := Lib.hid (HX2.out.trans hx3)
      have HSR3 := Lib.hid (HSR.out.ext hx3)
      clear hx3
      go_wp2_with fail
      refine (best_any bo lb cb q k w3 HL2.out hc2 hm2 HN2.out (HR2.out.ext HX3.out)).mono ?_
      rw [HRB.out]
      rintro e w4 ⟨ao4, cap4, rfl, _, hc4, hm4, hx4⟩
      simp only at hc4 ⊢
      have HX4 := Lib.hid (HX3.out.trans hx4)
      have HSR4 := Lib.hid (HSR3.out.ext hx4)
      clear hx4
      go_wp2_with fail
      refine (best_any so (len + lb) sc (p ++ q) k w4 (by rw [List.length_append, HL.out, HL2.out]) hso hsm' HSN.out HSR4.out).mono ?_
      rw [HRC.out]
      rintro e w5 ⟨ao5, cap5, rfl, _, hc5, hm5, hx5⟩
      simp only at hc5 ⊢
      have HX5 := Lib.hid (HX4.out.trans hx5)
      clear hx5
      have d1 : decide ((a : Int) ≤ (c : Int)) = true := by simp; omega
      have d2 : decide ((c : Int) ≤ (a : Int) + (b : Int)) = true := by simp; omega
      go_wp2_with fail
      refine (example_any _).mono ?_
      rintro e w6 ⟨rfl, hx6⟩
      go_wp2_with fail
      go_ret
      exact ⟨rfl, HX5.out.trans hx6⟩

set_option maxRecDepth 100000 in
theorem modesMonotone_lifted (os : Os) (started : os.Started) (H : Type) (enc : TypeId × Value → H) :
    ReturnsInHanded {} Try.checked os 9 .any (Rows.modesMonotoneSpec.pre6 enc Try.prog Try.f9 Rows.modesMonotoneRow.domain false) (Rows.modesMonotoneSpec.post enc Try.prog Try.f9 false true false false) := by
  refine returnsInHanded_of_change (C := Try.checked) Try.own started (by kernel_rfl) Try.func9
    (ChangeSpec.witness6 (enc := enc) (C := Try.checked) false ⟨#[], #[.slice none 0 0, .slice none 0 0, .int .u8 0], []⟩ 8 (by kernel_rfl) (by kernel_rfl) (by kernel_rfl) (by kernel_rfl)) ?_
  intro W base args ds gs before hval0 hW _ _
  have hval : ∀ (j : Nat) t v, Try.f9.params[j]? = some t → args[j]? = some v → Value.okWide Try.prog W .any base t v := hval0
  have hW' := hW
  obtain ⟨p, q, hA0, hV, rfl, _, _⟩ := hW
  have hA : DataW.TrodAll enc Try.prog W 0 (fun _ => true) true Try.f9.params.toList args.toList ds p := hA0
  rw [Try.params9] at hA hval
  obtain ⟨rfl, rfl⟩ := trodVars_none hV
  clear hA0 hval0
  simp only [List.append_nil] at hW'
  have hlt : ∀ x ∈ p, x.block < W.heap.size := fun x hx => by simpa using hW'.lt x hx
  have hstay : ∀ W', Below W.heap.size W W' → _ := fun W' hb => args_stay (enc := enc) Try.laidOut hb _ _ _ _ (by kernel_rfl) hA hlt
  obtain ⟨v0, v1, v2, d0, d1, d2, p0, p1, p2, rfl, rfl, rfl, h0, h1, h2⟩ := trodAll_three hA
  obtain ⟨ao0, len0, cap0, rfl⟩ := okWide_slice Try.underlying22 (hval 0 22 v0 rfl rfl)
  obtain ⟨fuel0, hf0⟩ := h0
  obtain ⟨xs0, ao0', len0', cap0', hv0, hl0, hc0, hm0, hn0, hr0⟩ := view_byts Try.underlying22 Try.underlying5 Try.cellsByte hf0
  cases hv0
  obtain ⟨ao1, len1, cap1, rfl⟩ := okWide_slice Try.underlying22 (hval 1 22 v1 rfl rfl)
  obtain ⟨fuel1, hf1⟩ := h1
  obtain ⟨xs1, ao1', len1', cap1', hv1, hl1, hc1, hm1, hn1, hr1⟩ := view_byts Try.underlying22 Try.underlying5 Try.cellsByte hf1
  cases hv1
  obtain ⟨x2, rfl, rfl, rfl, wx2⟩ := open_int Try.underlying5 (hval 2 5 v2 rfl rfl) h2
  refine (modesMonotone_walk ao0 len0 cap0 xs0 ao1 len1 cap1 xs1 x2 W (by rw [length_byts] at hl0; exact hl0) hc0 hm0 hn0 hr0 (by rw [length_byts] at hl1; exact hl1) hc1 hm1 hn1 hr1 (wf_u8_bd wx2)).mono fun e W' ⟨he, hb⟩ => ?_
  subst he
  exact ⟨_, rfl, _, _, _, [], _, [], hW', trodAll_mk1 (shut_bool Try.underlying4 _), hstay W' hb, rfl, hb.frame _, fun h => by cases h⟩

theorem modesMonotone_holds : Rows.ModesMonotoneSaid :=
  OpenClaim.holds_of_wide 9 Try.f9 rfl rfl rfl rfl rfl rfl rfl ⟨rfl, rfl, rfl, rfl, rfl⟩ rfl rfl rfl rfl rfl (by kernel_rfl) Try.func9 (by kernel_rfl)
    (of_decide_eq_true (by kernel_rfl)) (by unfold Func.isWrapper; first | (rw [if_pos (by decide +kernel)]; kernel_rfl) | (rw [if_neg (by decide +kernel)]; exact ⟨rfl, rfl⟩))
    (fun os started H enc _ => modesMonotone_lifted os started H enc)


end Go.Proofs.Ythebfpolijajgaa
