/-
  For every input BitsBytes returns true, and each argument reads afterwards as it read before (Rows.BitsBytesSaid).
  No condition.
-/
import Derived.Test.YtkkfldnkenbplaaLawBase
import Derived.Deep.RegionWith
namespace Go.Proofs.Ytkkfldnkenbplaa
open Go.RowKit Go.Bs Go.ChangeShapes Go.WideShapes Go.ChangeAt Go.Joins

theorem fbRes_len (p : List UInt8) (n : Int) : (fbRes p n).1.length ≤ 1048576 := by
  unfold fbRes
  split
  · simp
  · split
    · simp
    · split
      · simp
      · simp only [length_fbits]; omega

set_option maxRecDepth 20000 in
set_option maxHeartbeats 2000000 in
theorem bitsBytes_walk (ao : Option Addr) (len cap : Nat) (xs : List Bool) (bo : Option Addr) (lb cb : Nat) (ys : List UInt8) (n : Int) (w : World)
    (hl : xs.length = len) (_ : len ≤ cap) (_ : cap ≤ 9223372036854775807) (_ : ao = none → cap = 0) (hr : Row w ao (bools xs))
    (hl2 : ys.length = lb) (_ : lb ≤ cb) (_ : cb ≤ 9223372036854775807) (_ : bo = none → cb = 0) (hr2 : Row w bo (byts ys)) (_ : -9223372036854775808 ≤ n ∧ n ≤ 9223372036854775807) :
    Calls Try.prog 10 #[.slice ao len cap, .slice bo lb cb, .int .i64 n] w fun e w' => e = .returned (.bool true) ∧ Ext w w' := by
  have HL := Lib.hid hl
  have HL2 := Lib.hid hl2
  clear hl hl2
  go_enter Try.func10, Try.ntmps10
  by_cases hbig : 2000 < len ∨ 300 < lb
  · rcases hbig with h | h
    all_goals
      go_wp2_with (go_at_call 12; refine (alive_any _).mono ?_; rintro e w1 ⟨rfl, hx⟩)
      all_goals
        go_ret
        exact ⟨rfl, by assumption⟩
  · have hs1 : len ≤ 2000 := by omega
    have hs2 : lb ≤ 300 := by omega
    clear hbig
    have hq := fbRes_len ys n
    obtain ⟨r, hA⟩ : ∃ r, r = fbRes ys n := ⟨_, rfl⟩
    rw [← hA] at hq
    have HA := Lib.hid hA
    clear hA
    obtain ⟨zs, c⟩ := r
    simp only at hq
    go_wp2_with fail
    refine (fromBytes_any _ _ _ ys _ _ HL2.out (by omega) hr2).mono ?_
    rw [← HA.out]
    intro e w1 hret
    obtain ⟨b1, c1, rfl, h1, _, _, _, hx1⟩ := hret.bools
    clear hret
    replace hr := hr.ext hx1
    replace hr2 := hr2.ext hx1
    go_wp2_with fail
    refine (rfromBytes_any _ _ _ ys _ _ HL2.out (by omega) hr2).mono ?_
    rw [← HA.out]
    intro e w2 hret
    obtain ⟨b2, c2, rfl, h2, _, _, _, hx2⟩ := hret.bools
    clear hret
    replace h1 := h1.ext hx2
    replace hr := hr.ext hx2
    clear hr2
    obtain ⟨bs, hbs⟩ : ∃ bs, bs = bytesOf xs ((xs.length + 8 - 1) / 8) := ⟨_, rfl⟩
    have HBS := Lib.hid hbs
    clear hbs
    have hx02 := hx1.trans hx2
    clear hx1 hx2
    go_wp2_with fail
    go_region_with (first
      | (go_at_call 36; refine (bytes_any _ _ _ xs _ HL.out (by omega) (hr.ext (Ext.drew _))).mono ?_; rw [← HBS.out]; intro e w3 hret3; obtain ⟨b3, c3, rfl, h3, _, _, _, hx3⟩ := hret3.byts; clear hret3; have e33 := Ext.refl w3; have cv3 := fun (W : World) (hW : Ext w3 W) => run_toString (P := Try.prog) (src := 60) (dst := 9) (c := c3) Try.underlying60 Try.underlying5 Try.underlying9 (h3.ext hW) rfl)
      | (go_at_call 37; refine (rbytes_any _ _ _ xs _ HL.out (by omega) ((hr.ext (Ext.drew _)).ext (by assumption))).mono ?_; rw [← HBS.out]; intro e w4 hret4; obtain ⟨b4, c4, rfl, h4, _, _, _, hx4⟩ := hret4.byts; clear hret4; have e44 := Ext.refl w4; have cv4 := fun (W : World) (hW : Ext w4 W) => run_toString (P := Try.prog) (src := 60) (dst := 9) (c := c4) Try.underlying60 Try.underlying5 Try.underlying9 (h4.ext hW) rfl)
      | (go_at_call 17; refine (same_any _ _ _ _ _ _ zs zs _ rfl rfl (by omega) (((h1.ext (Ext.drew _)).ext (by assumption)).ext (by assumption)) (((h2.ext (Ext.drew _)).ext (by assumption)).ext (by assumption))).mono ?_; rw [show (zs == zs) = true from by simp]; rintro e w5 ⟨rfl, hx5⟩)
      | (go_at_call 12; refine (alive_any _).mono ?_; rintro e w6 ⟨rfl, hx6⟩))
    all_goals
      go_wp2_with fail
      go_ret
      exact ⟨rfl, hx02.trans ((Ext.drew _).trans (hx3.trans (hx4.trans (hx5.trans hx6))))⟩

set_option maxRecDepth 100000 in
theorem bitsBytes_lifted (os : Os) (started : os.Started) (H : Type) (enc : TypeId × Value → H) :
    ReturnsInHanded {} Try.checked os 10 .any (Rows.bitsBytesSpec.pre6 enc Try.prog Try.f10 Rows.bitsBytesRow.domain false) (Rows.bitsBytesSpec.post enc Try.prog Try.f10 false true false false) := by
  refine returnsInHanded_of_change (C := Try.checked) Try.own started (by kernel_rfl) Try.func10
    (ChangeSpec.witness6 (enc := enc) (C := Try.checked) false ⟨#[], #[.slice none 0 0, .slice none 0 0, .int .i64 0], []⟩ 8 (by kernel_rfl) (by kernel_rfl) (by kernel_rfl) (by kernel_rfl)) ?_
  intro W base args ds gs before hval0 hW _ _
  have hval : ∀ (j : Nat) t v, Try.f10.params[j]? = some t → args[j]? = some v → Value.okWide Try.prog W .any base t v := hval0
  have hW' := hW
  obtain ⟨p, q, hA0, hV, rfl, _, _⟩ := hW
  have hA : DataW.TrodAll enc Try.prog W 0 (fun _ => true) true Try.f10.params.toList args.toList ds p := hA0
  rw [Try.params10] at hA hval
  obtain ⟨rfl, rfl⟩ := trodVars_none hV
  clear hA0 hval0
  simp only [List.append_nil] at hW'
  have hlt : ∀ x ∈ p, x.block < W.heap.size := fun x hx => by simpa using hW'.lt x hx
  have hstay : ∀ W', Below W.heap.size W W' → _ := fun W' hb => args_stay (enc := enc) Try.laidOut hb _ _ _ _ (by kernel_rfl) hA hlt
  obtain ⟨v0, v1, v2, d0, d1, d2, p0, p1, p2, rfl, rfl, rfl, h0, h1, h2⟩ := trodAll_three hA
  obtain ⟨ao0, len0, cap0, rfl⟩ := okWide_slice Try.underlying22 (hval 0 22 v0 rfl rfl)
  obtain ⟨fuel0, hf0⟩ := h0
  obtain ⟨xs0, ao0', len0', cap0', hv0, hl0, hc0, hm0, hn0, hr0⟩ := view_bools Try.underlying22 Try.underlying4 Try.cellsBool hf0
  cases hv0
  obtain ⟨ao1, len1, cap1, rfl⟩ := okWide_slice Try.underlying60 (hval 1 60 v1 rfl rfl)
  obtain ⟨fuel1, hf1⟩ := h1
  obtain ⟨xs1, ao1', len1', cap1', hv1, hl1, hc1, hm1, hn1, hr1⟩ := view_byts Try.underlying60 Try.underlying5 Try.cellsByte hf1
  cases hv1
  obtain ⟨x2, rfl, rfl, rfl, wx2⟩ := open_int Try.underlying3 (hval 2 3 v2 rfl rfl) h2
  refine (bitsBytes_walk ao0 len0 cap0 xs0 ao1 len1 cap1 xs1 x2 W (by rw [length_bools] at hl0; exact hl0) hc0 hm0 hn0 hr0 (by rw [length_byts] at hl1; exact hl1) hc1 hm1 hn1 hr1 (wf_i64_bd wx2)).mono fun e W' ⟨he, hb⟩ => ?_
  subst he
  exact ⟨_, rfl, _, _, _, [], _, [], hW', trodAll_mk1 (shut_bool Try.underlying4 _), hstay W' hb, rfl, hb.frame _, fun h => by cases h⟩

theorem bitsBytes_holds : Rows.BitsBytesSaid :=
  OpenClaim.holds_of_wide 10 Try.f10 rfl rfl rfl rfl rfl rfl rfl ⟨rfl, rfl, rfl, rfl, rfl⟩ rfl rfl rfl rfl rfl (by kernel_rfl) Try.func10 (by kernel_rfl)
    (of_decide_eq_true (by kernel_rfl)) (by unfold Func.isWrapper; first | (rw [if_pos (by decide +kernel)]; kernel_rfl) | (rw [if_neg (by decide +kernel)]; exact ⟨rfl, rfl⟩))
    (fun os started H enc _ => bitsBytes_lifted os started H enc)


end Go.Proofs.Ytkkfldnkenbplaa
